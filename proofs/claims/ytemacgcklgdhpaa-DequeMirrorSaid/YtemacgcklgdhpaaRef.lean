/- The walks of the document's row: a slice of texts. -/
import Derived.Test.YtemacgcklgdhpaaDq
import Derived.Test.YtemacgcklgdhpaaRClamp
import Derived.Deep.QuietTactic
namespace Go.Proofs.Ytemacgcklgdhpaa
open Go.RowKit

/-- the shape of a slice value that holds texts -/
theorem StrsAt.form {w : World} {v : Value} {l : List ByteArray} (h : StrsAt w v l) : ∃ sp cap, v = .slice sp l.length cap ∧ l.length ≤ cap ∧ (sp = none → cap = 0) ∧
    (0 < l.length → ∃ b off, sp = some ⟨b, off, none⟩ ∧ Nine w b ∧ ∀ i, i < l.length → w.cell? ⟨b, off + i, none⟩ = some (.string (l.getD i emptyS))) := by
  rcases h with ⟨rfl, rfl | ⟨ad, cap, rfl⟩⟩ | ⟨b, off, cap, rfl, hcap, hn9, hc⟩
  · exact ⟨_, _, rfl, by simp, fun _ => rfl, fun h => by simp at h⟩
  · exact ⟨_, _, rfl, by simp, fun h => by simp at h, fun h => by simp at h⟩
  · exact ⟨_, _, rfl, hcap, fun h => by simp at h, fun _ => ⟨b, off, rfl, hn9, hc⟩⟩

theorem StrsAt.mk {w : World} {sp : Option Addr} {cap : Nat} {l : List ByteArray} (hcap : l.length ≤ cap) (hn : sp = none → cap = 0)
    (hc : 0 < l.length → ∃ b off, sp = some ⟨b, off, none⟩ ∧ Nine w b ∧ ∀ i, i < l.length → w.cell? ⟨b, off + i, none⟩ = some (.string (l.getD i emptyS))) : StrsAt w (.slice sp l.length cap) l := by
  by_cases h0 : l.length = 0
  · have e := List.eq_nil_of_length_eq_zero h0
    subst e
    refine .inl ⟨rfl, ?_⟩
    cases sp with
    | none => exact .inl (by rw [hn rfl]; rfl)
    | some ad => exact .inr ⟨ad, cap, rfl⟩
  · obtain ⟨b, off, rfl, hn9, hc'⟩ := hc (by omega)
    exact .inr ⟨b, off, cap, rfl, hcap, hn9, hc'⟩

theorem below_drewN' (w : World) (n : Nat) : Below w.heap.size w (w.drewN n) := ⟨rfl, rfl, rfl, Nat.le_refl _, fun _ _ => rfl⟩

set_option maxHeartbeats 400000 in
theorem r_push {w : World} {v : Value} {l : List ByteArray} (h : StrsAt w v l) (hl : l.length ≤ 256) (front : Bool) (s : ByteArray) :
    Calls Try.prog 25 #[v, .bool front, .string s] w fun e w' => ∃ v', e = .returned (.tuple #[v', .bool (decide (l.length < 256))]) ∧ StrsAt w' v' (pushed l front s) ∧ Below w.heap.size w w' := by
  obtain ⟨sp, cap, rfl, hcap, hn, hc⟩ := h.form
  have H := Lib.hid h
  clear h hc hn
  by_cases hlt : l.length < 256
  · have hge : ¬ (256 : Int) ≤ (l.length : Int) := by omega
    have HD : Hid (decide (l.length < 256) = true) := decide_eq_true hlt
    have HP : Hid (pushed l front s = if front then s :: l else l ++ [s]) := by unfold pushed; rw [if_pos hlt]; exact rfl
    cases front with
    | true =>
      have hb1 : Below w.heap.size w (w.alloc (.cells #[.string s] 9)) := (Below.refl _ _).alloc (Nat.le_refl _) _
      have HB1 := Lib.hid hb1
      clear hb1
      go_enter Try.func25, Try.ntmps25
      go_wp2_with (first
        | (at_builtin; refine wpList_append_strs rfl (.tmp 14) (.tmp 16) rfl w.heap.size _ _ _ rfl (World.ownsRow_nil _ _ _ _) _ [s] rfl (strsAt_one w s) (by simp only [List.length_cons, List.length_nil]; omega) (by simp) ?_; intro v1 w1 hown1 hbel1; have HO1 := Lib.hid hown1; have HB2 := Lib.hid (HB1.out.trans hbel1); clear hown1 hbel1)
        | (at_builtin; refine wpList_append_strs rfl (.tmp 18) (.tmp 19) rfl w.heap.size _ _ _ rfl HO1.out _ l rfl (H.out.below HB2.out) (by simp only [List.length_cons, List.length_nil]; omega) HB2.out.size ?_; intro v2 w2 hown2 hbel2; have HO2 := Lib.hid hown2; have HB3 := Lib.hid (HB2.out.trans hbel2); clear hown2 hbel2))
      go_ret2
      refine ⟨_, rfl, ?_, HB3.out⟩
      rw [HP.out]
      have h2 := HO2.out
      refine strsAt_own (B := w.heap.size) ?_
      simpa [strVals, Nat.add_comm] using h2
    | false =>
      go_enter Try.func25, Try.ntmps25
      go_wp2_with (first
        | (at_builtin; refine wpList_append_strs rfl (.tmp 21) (.tmp 22) rfl w.heap.size _ 0 _ rfl (World.ownsRow_nil _ _ _ _) _ l rfl H.out (by omega) (Nat.le_refl _) ?_; intro v1 w1 hown1 hbel1; have HO1 := Lib.hid hown1; have HB2 := Lib.hid hbel1; clear hown1 hbel1)
        | (at_builtin; refine wpList_append_strs rfl (.tmp 24) (.tmp 26) rfl w.heap.size _ _ _ rfl (HO1.out.alloc _) _ [s] rfl (strsAt_one w1 s) (by simp only [List.length_cons, List.length_nil]; omega) (Nat.le_trans HB2.out.size (by simp)) ?_; intro v2 w2 hown2 hbel2; have HO2 := Lib.hid hown2; have HB3 := Lib.hid ((HB2.out.alloc HB2.out.size _).trans hbel2); clear hown2 hbel2))
      go_ret2
      refine ⟨_, rfl, ?_, HB3.out⟩
      rw [HP.out]
      have h2 := HO2.out
      refine strsAt_own (B := w.heap.size) ?_
      simpa [strVals] using h2
  · have hge : (256 : Int) ≤ (l.length : Int) := by omega
    have HD : Hid (decide (l.length < 256) = false) := decide_eq_false hlt
    have HP : Hid (pushed l front s = l) := by unfold pushed; rw [if_neg hlt]; exact rfl
    go_enter Try.func25, Try.ntmps25
    go_wp2
    go_ret2
    exact ⟨.slice sp l.length cap, by rw [HD.out]; rfl, by rw [HP.out]; exact H.out, Below.refl _ _⟩

set_option maxHeartbeats 400000 in
theorem r_pop {w : World} {v : Value} {l : List ByteArray} (h : StrsAt w v l) (hl : l.length ≤ 256) (front : Bool) :
    Calls Try.prog 26 #[v, .bool front] w fun e w' => ∃ v', e = .returned (.tuple #[v', .string (popS l front), .bool (decide (0 < l.length))]) ∧ StrsAt w' v' (popped l front) ∧ Below w.heap.size w w' := by
  obtain ⟨sp, cap, rfl, hcap, hn, hc⟩ := h.form
  by_cases h0 : l.length = 0
  · have e := List.eq_nil_of_length_eq_zero h0
    subst e
    have H := Lib.hid h
    clear h hc hn h0
    go_enter Try.func26, Try.ntmps26
    go_wp2
    go_ret3
    exact ⟨_, rfl, by cases front <;> exact H.out, Below.refl _ _⟩
  · obtain ⟨b, off, rfl, hn9, hcc⟩ := hc (by omega)
    have HN9 := Lib.hid hn9
    have hb : ((l.length : Int) == 0) = false := by rw [beq_eq_false_iff_ne]; omega
    have HD : Hid (decide (0 < l.length) = true) := decide_eq_true (by omega)
    have hcapI : (l.length : Int) ≤ cap := by omega
    have h1I : (1 : Int) ≤ l.length := by omega
    have h0I : (0 : Int) < l.length := by omega
    have hbw : b < w.heap.size := block_lt_of_cell (hcc 0 (by omega))
    cases front with
    | true =>
      obtain ⟨s, hs⟩ : ∃ s, s = l.getD 0 emptyS := ⟨_, rfl⟩
      have hc0 : w.cell? ⟨b, off, none⟩ = some (.string s) := by rw [hs]; exact hcc 0 (by omega)
      have HS : Hid (popS l true = s) := by unfold popS; rw [if_neg h0, hs]; exact rfl
      have HC := Lib.hid hcc
      clear h hc hcc hn hs hn9
      go_enter Try.func26, Try.ntmps26
      go_wp2_with fail
      go_quiet (fail)
      go_wp2
      · go_ret3
        have hc1 : cap = 1 := by omega
        refine ⟨.slice (some ⟨b, off, none⟩) (l.length - 1) 0, by rw [HS.out, HD.out]; rfl, ?_, below_drewN' _ _⟩
        rw [show popped l true = [] from List.eq_nil_of_length_eq_zero (by simp [popped]; omega), show l.length - 1 = 0 by omega]
        exact .inl ⟨rfl, .inr ⟨_, _, rfl⟩⟩
      · go_ret3
        refine ⟨_, by rw [HS.out, HD.out]; rfl, ?_, below_drewN' _ _⟩
        have hlen : (popped l true).length = l.length - 1 := by simp [popped]
        rw [← hlen]
        refine StrsAt.mk (by rw [hlen]; omega) (fun h => by simp at h) fun _ => ⟨b, off + 1, rfl, HN9.out, fun i hi => ?_⟩
        rw [hlen] at hi
        have := HC.out (i + 1) (by omega)
        rw [show off + 1 + i = off + (i + 1) by omega]
        rw [show (w.drewN nq).cell? ⟨b, off + (i + 1), none⟩ = w.cell? ⟨b, off + (i + 1), none⟩ from rfl, this]
        simp [popped, List.getD]
    | false =>
      obtain ⟨s, hs⟩ : ∃ s, s = l.getD (l.length - 1) emptyS := ⟨_, rfl⟩
      have hc0 : w.cell? ⟨b, off + (l.length - 1), none⟩ = some (.string s) := by rw [hs]; exact hcc (l.length - 1) (by omega)
      have HS : Hid (popS l false = s) := by unfold popS; rw [if_neg h0, hs]; exact rfl
      have HC := Lib.hid hcc
      clear h hc hcc hn hs hn9
      go_enter Try.func26, Try.ntmps26
      go_wp2_with fail
      go_quiet (fail)
      go_wp2
      go_ret3
      refine ⟨_, by rw [HS.out, HD.out]; rfl, ?_, below_drewN' _ _⟩
      have hlen : (popped l false).length = l.length - 1 := by simp [popped]
      rw [← hlen]
      refine StrsAt.mk (by rw [hlen]; omega) (fun h => by simp at h) fun _ => ⟨b, off, rfl, HN9.out, fun i hi => ?_⟩
      rw [hlen] at hi
      have := HC.out i (by omega)
      rw [show (w.drewN nq).cell? ⟨b, off + i, none⟩ = w.cell? ⟨b, off + i, none⟩ from rfl, this]
      have hi2 : i < l.length := by omega
      simp [popped, List.getD, hi, hi2]

/-- the document's place -/
def placeR (n : Nat) (i : Int) : Int := if (n : Int) ≤ (if i < 0 then i + n else i) then -1 else (if i < 0 then i + n else i)

theorem placeR_some {n : Nat} {i : Int} {k : Nat} (h : meant n i = some k) : placeR n i = k := by
  obtain ⟨hk, hik⟩ := meant_some h
  unfold placeR
  rcases hik with ⟨h0, rfl⟩ | ⟨h0, h1⟩
  · rw [if_neg (show ¬ (k : Int) < 0 by omega), if_neg (by omega)]
  · rw [if_pos h0, h1, if_neg (by omega)]
theorem placeR_none {n : Nat} {i : Int} (h : meant n i = none) : placeR n i < 0 := by
  have hn := meant_none h
  have hs : ¬ (0 ≤ i ∧ i < n) := fun hh => by simp [meant, hh] at h
  unfold placeR
  by_cases h0 : i < 0
  · rw [if_pos h0]
    by_cases h1 : (n : Int) ≤ i + n
    · omega
    · rw [if_neg h1]; omega
  · rw [if_neg h0, if_pos (by omega)]; omega
theorem placeR_lo {n : Nat} {i : Int} (hi : -9223372036854775808 ≤ i) : -9223372036854775808 ≤ placeR n i := by
  unfold placeR
  split
  · omega
  · split <;> omega

theorem r_place {w : World} {v : Value} {l : List ByteArray} (h : StrsAt w v l) (hl : l.length ≤ 256) (i : Int) (hi : -9223372036854775808 ≤ i) :
    Calls Try.prog 27 #[v, .int .i64 i] w fun e w' => e = .returned (.int .i64 (placeR l.length i)) ∧ w = w' := by
  obtain ⟨sp, cap, rfl, _⟩ := h.form
  clear h
  obtain ⟨n, hn⟩ : ∃ n, n = l.length := ⟨_, rfl⟩
  rw [← hn] at hl ⊢
  clear hn
  by_cases h0 : i < 0
  · by_cases h1 : (n : Int) ≤ i + n
    · omega
    · have HE : Hid (placeR n i = i + n) := by unfold placeR; rw [if_pos h0, if_neg h1]; exact rfl
      go_enter Try.func27, Try.ntmps27
      go_wp2
      go_ret
      rw [HE.out]
      exact ⟨rfl, rfl⟩
  · by_cases h1 : (n : Int) ≤ i
    · have HE : Hid (placeR n i = -1) := by unfold placeR; rw [if_neg h0, if_pos h1]; exact rfl
      go_enter Try.func27, Try.ntmps27
      go_wp2
      go_ret
      rw [HE.out]
      exact ⟨rfl, rfl⟩
    · have HE : Hid (placeR n i = i) := by unfold placeR; rw [if_neg h0, if_neg h1]; exact rfl
      go_enter Try.func27, Try.ntmps27
      go_wp2
      go_ret
      rw [HE.out]
      exact ⟨rfl, rfl⟩

theorem own_empty (w : World) (B : Nat) (hB : B ≤ w.heap.size) : (w.alloc (.cells #[] 9)).ownsRow B 9 1 (.slice (some ⟨w.heap.size, 0, none⟩) 0 0) 0 (strVals []) :=
  World.ownsRow_lit w #[] 0 hB (by decide) rfl

set_option maxHeartbeats 400000 in
theorem r_put {w : World} {v : Value} {l : List ByteArray} (h : StrsAt w v l) (hl : l.length ≤ 256) (i : Int) (s : ByteArray) (hi : -9223372036854775808 ≤ i) :
    Calls Try.prog 28 #[v, .int .i64 i, .string s] w fun e w' => ∃ v', e = .returned (.tuple #[v', .bool (meant l.length i).isSome]) ∧ StrsAt w' v' (putP l i s) ∧ Below w.heap.size w w' := by
  have HP := Lib.hid (r_place h hl i hi)
  have H := Lib.hid h
  clear h
  unfold putP
  cases hm : meant l.length i with
  | none =>
    have hneg := placeR_none hm
    clear hm
    generalize placeR l.length i = z at *
    go_enter Try.func28, Try.ntmps28
    go_wp2_with fail
    refine HP.out.mono ?_
    rintro e w' ⟨rfl, rfl⟩
    go_wp2
    go_ret2
    exact ⟨v, rfl, H.out, Below.refl _ _⟩
  | some k =>
    obtain ⟨hk, hik⟩ := meant_some hm
    rw [placeR_some hm] at HP
    have hneg : ¬ (k : Int) < 0 := by omega
    have hb1 : Below w.heap.size w (w.alloc (.cells #[] 9)) := (Below.refl _ _).alloc (Nat.le_refl _) _
    have HB1 := Lib.hid hb1
    clear hm hik hb1
    go_enter Try.func28, Try.ntmps28
    go_wp2_with fail
    refine HP.out.mono ?_
    rintro e w' ⟨rfl, rfl⟩
    have hkI : (k : Int) < l.length := by omega
    go_wp2_with (at_builtin; refine wpList_append_strs rfl (.tmp 16) (.tmp 17) rfl w.heap.size _ 0 _ rfl (own_empty w w.heap.size (Nat.le_refl _)) _ l rfl (H.out.below HB1.out) (by omega) (by simp) ?_; intro v1 w1 hown1 hbel1; rw [Nat.zero_add] at hown1; obtain ⟨g1, cap1, rfl, hg1, hg2⟩ := hown1.form (by omega); have HO1 := Lib.hid hown1; have HB2 := Lib.hid (HB1.out.trans hbel1); obtain ⟨o, ho⟩ : ∃ o, w1.cell? ⟨g1, k, none⟩ = some o := ⟨_, (hown1.cellAt k (by omega)).trans (List.getElem?_eq_getElem (by simp [strVals]; omega))⟩; have hz := hown1.frozenAt k; clear hown1 hbel1)
    go_ret2
    have hst := (HO1.out.stored k (.string s)).1
    refine ⟨_, rfl, ?_, HB2.out.setCell (by exact hg1) _⟩
    have hlen : (l.set k s).length = l.length := by simp
    rw [← hlen]
    refine strsAt_own (B := w.heap.size) ?_
    rw [hlen]
    simpa [strVals, List.map_set] using hst

theorem sub_getD (l : List ByteArray) (a b i : Nat) (h : i < b - a) : (sub l a b).getD i emptyS = l.getD (a + i) emptyS := by
  unfold sub
  simp only [List.getD, List.getElem?_take, if_pos h, List.getElem?_drop]

theorem r_range {w : World} {v : Value} {l : List ByteArray} (h : StrsAt w v l) (hl : l.length ≤ 256) (a b : Int) (ha : -9223372036854775808 ≤ a) (hb : -9223372036854775808 ≤ b) (ha2 : a ≤ 9223372036854775807) (hb2 : b ≤ 9223372036854775807) :
    Calls Try.prog 29 #[v, .int .i64 a, .int .i64 b] w fun e w' => ∃ v', e = .returned v' ∧ StrsAt w' v' (ranged l a b) ∧ Below w.heap.size w w' := by
  obtain ⟨sp, cap, rfl, hcap, hn, hc⟩ := h.form
  have hbd := clamp_bounds a b l.length (by omega)
  obtain ⟨A, hA⟩ : ∃ A : Nat, clampA a b l.length = A := ⟨(clampA a b l.length).toNat, by omega⟩
  obtain ⟨B, hB⟩ : ∃ B : Nat, clampB a b l.length = B := ⟨(clampB a b l.length).toNat, by omega⟩
  have hcl := rclamp_any a b l.length w ha hb ha2 hb2 (by omega)
  have hR : ranged l a b = sub l A B := by unfold ranged; rw [hA, hB]; rfl
  rw [hA, hB] at hcl hbd
  have HC := Lib.hid hcl
  have HR := Lib.hid hR
  have HN := Lib.hid hn
  have HCC := Lib.hid hc
  have hAB : A ≤ B := by omega
  have hBl : B ≤ l.length := by omega
  have i1 : (A : Int) ≤ B := by omega
  have i2 : (B : Int) ≤ cap := by omega
  clear hcl hR hA hB hbd h hn hc
  go_enter Try.func29, Try.ntmps29
  go_wp2_with fail
  refine HC.out.mono ?_
  rintro e w' ⟨rfl, rfl⟩
  go_wp2
  · go_ret
    refine ⟨.slice sp (B - A) 0, rfl, ?_, Below.refl _ _⟩
    have e0 : sub l A B = [] := List.eq_nil_of_length_eq_zero (by rw [sub_length _ _ _ (by omega)]; omega)
    rw [HR.out, e0, show B - A = 0 by omega]
    refine .inl ⟨rfl, ?_⟩
    cases sp with
    | none => exact .inl rfl
    | some ad => exact .inr ⟨ad, 0, rfl⟩
  · go_ret
    refine ⟨.slice (Option.map (fun x => x.add A) sp) (B - A) (cap - A), rfl, ?_, Below.refl _ _⟩
    have hl2 : (sub l A B).length = B - A := sub_length _ _ _ (by omega)
    rw [HR.out, ← hl2]
    refine StrsAt.mk (by omega) (fun e => ?_) (fun hpos => ?_)
    · have hsn : sp = none := by
        cases sp with
        | none => rfl
        | some ad => simp at e
      have := HN.out hsn
      omega
    · obtain ⟨b1, off, hsp, hn9, hcell⟩ := HCC.out (by omega)
      subst hsp
      refine ⟨b1, off + A, by simp [Addr.add], hn9, fun i hi => ?_⟩
      rw [show off + A + i = off + (A + i) by omega, hcell (A + i) (by omega), sub_getD _ _ _ _ (by omega)]
end Go.Proofs.Ytemacgcklgdhpaa
