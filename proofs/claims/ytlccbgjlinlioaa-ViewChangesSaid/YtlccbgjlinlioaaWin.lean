/- The walks of Clone, Give, Win. -/
import Derived.Test.YtlccbgjlinlioaaZero
import Derived.Laws.CopyOwn
namespace Go.Proofs.Ytlccbgjlinlioaa
open Go.RowKit

theorem VCells.oneCell {cs : Array Value} {s : VS} (h : VCells cs s) : cs.all (·.oneCell') = true := by
  refine Array.all_eq_true_iff_forall_mem.2 fun u hu => ?_
  obtain ⟨i, hi, rfl⟩ := Array.mem_iff_getElem.1 hu
  have hs := h.size
  have e : ∀ v, cs[i]? = some v → cs[i] = v := fun v hv => by rw [Array.getElem?_eq_getElem hi] at hv; simpa using hv
  by_cases h0 : i = 0
  · subst h0; rw [e _ h.self]; rfl
  · by_cases h1 : i < 16385
    · obtain ⟨k, rfl⟩ : ∃ k, i = 1 + k := ⟨i - 1, by omega⟩
      rw [e _ (h.own k (by omega))]; rfl
    · by_cases h2 : i < 16449
      · obtain ⟨k, rfl⟩ : ∃ k, i = 16385 + k := ⟨i - 16385, by omega⟩
        rw [e _ (h.ep k (by omega))]; rfl
      · have h3 : i = 16449 := by omega
        subst h3; rw [e _ h.cur]; rfl

set_option maxRecDepth 100000 in
theorem clone_any {w : World} {g : Nat} {s : VS} (h : ViewAt w g s) :
    Calls Try.prog 14 #[.pointer (some ⟨g, 0, none⟩)] w fun e w' => e = .returned (.pointer (some ⟨w.heap.size, 0, none⟩)) ∧ ViewAt w' w.heap.size s ∧ Below w.heap.size w w' ∧ w.heap.size < w'.heap.size := by
  obtain ⟨cs, hg, hv⟩ := h
  have HG := Lib.hid hg
  have HS : Hid ((Try.prog.info? 80).map (·.size) = some cs.size) := by rw [hv.size]; exact size80
  have hz := zero80
  have hT := zeroCells_size
  have hne := zeroCells_ne
  have HV := Lib.hid hv
  generalize zeroCells = T at *
  have HT : Hid (T.size = cs.size) := by rw [hT, hv.size]; exact rfl
  have H1 := Lib.hid hv.oneCell
  clear hg hv hT
  go_enter Try.func14, Try.ntmps14
  go_wp2_with (first
    | (with_reducible refine wpList_load_row rfl 80 (.tmp 5) rfl g rfl 80 cs (0, 0) _ HG.out Try.underlying80 rfl HS.out ?_)
    | (with_reducible refine wpList_store_row rfl 80 (.tmp 3) (.tmp 6) rfl w.heap.size cs rfl rfl 80 T (heap_alloc_new w _) HS.out HT.out H1.out ?_))
  go_ret
  refine ⟨rfl, ⟨cs, setRow_heap _ _ _ _ _ _ (heap_alloc_new w _), HV.out⟩, below_setRow ((Below.refl _ _).alloc (Nat.le_refl _) _) (Nat.le_refl _) _, by simp [World.setRow]⟩

/-- another one's -/
def VS.give (s : VS) (k n : Int) : VS := s.setOwn k.toNat n
/-- won: its own, at a new epoch -/
def VS.win (s : VS) (k least : Int) : VS := ((s.setOwn k.toNat s.self).setCur (max s.cur least)).raise
/-- what Win tells -/
def winE (k least : Int) : Int := if inSlot k = true ∧ least ≤ 4611686018427387904 then 0 else 1
def giveE (k n : Int) : Int := if inSlot k = true then (if inNode n = true then 0 else 150) else 1
def VS.winD (s : VS) (k least : Int) : VS := if inSlot k = true ∧ least ≤ 4611686018427387904 then s.win k least else s
def VS.giveD (s : VS) (k n : Int) : VS := if inSlot k = true then (if inNode n = true then s.give k n else s) else s

set_option maxRecDepth 100000 in
theorem give_any {w : World} {g : Nat} {s : VS} (h : ViewAt w g s) (k n : Int) :
    Calls Try.prog 40 #[.pointer (some ⟨g, 0, none⟩), .int .i64 k, .int .i64 n] w fun e w' => e = .returned (.int .i64 (giveE k n)) ∧ ViewAt w' g (s.giveD k n) ∧ Only w w' g := by
  have HT := Lib.hid (there_any k w)
  have HN := Lib.hid (node_any n w)
  cases ht : inSlot k with
  | true =>
    obtain ⟨h0, h1⟩ := inSlot_true ht
    obtain ⟨j, rfl⟩ := Int.eq_ofNat_of_zero_le h0
    have hj : j < 16384 := by omega
    cases hn : inNode n with
    | true =>
      obtain ⟨n0, n1⟩ := inNode_true hn
      have c1 := h.own j hj
      have z1 := h.free (1 + j)
      have HV := Lib.hid (h.setOwn j hj n)
      have hE : Hid (giveE j n = 0) := by unfold giveE; rw [if_pos ht, if_pos hn]; exact rfl
      have hD : Hid (s.giveD j n = s.setOwn j n) := by unfold VS.giveD; rw [if_pos ht, if_pos hn]; exact rfl
      generalize s.own j = o at *
      rw [ht] at HT
      rw [hn] at HN
      clear h ht hn
      go_enter Try.func40, Try.ntmps40
      go_wp2_with fail
      refine HT.out.mono ?_
      rintro e w' ⟨rfl, rfl⟩
      go_wp2_with fail
      refine HN.out.mono ?_
      rintro e w' ⟨rfl, rfl⟩
      go_wp2
      go_ret
      exact ⟨by rw [hE.out]; rfl, by rw [hD.out]; exact HV.out, Only.setCell _ _ _ _⟩
    | false =>
      have hE : Hid (giveE j n = 150) := by unfold giveE; rw [if_pos ht, if_neg (by rw [hn]; decide)]; exact rfl
      have hD : Hid (s.giveD j n = s) := by unfold VS.giveD; rw [if_pos ht, if_neg (by rw [hn]; decide)]; exact rfl
      have H := Lib.hid h
      rw [ht] at HT
      rw [hn] at HN
      clear h ht hn
      go_enter Try.func40, Try.ntmps40
      go_wp2_with fail
      refine HT.out.mono ?_
      rintro e w' ⟨rfl, rfl⟩
      go_wp2_with fail
      refine HN.out.mono ?_
      rintro e w' ⟨rfl, rfl⟩
      go_wp2
      go_ret
      exact ⟨by rw [hE.out]; rfl, by rw [hD.out]; exact H.out, Only.refl _ _⟩
  | false =>
    have hE : Hid (giveE k n = 1) := by unfold giveE; rw [if_neg (by rw [ht]; decide)]; exact rfl
    have hD : Hid (s.giveD k n = s) := by unfold VS.giveD; rw [if_neg (by rw [ht]; decide)]; exact rfl
    have H := Lib.hid h
    rw [ht] at HT
    clear h ht HN
    go_enter Try.func40, Try.ntmps40
    go_wp2_with fail
    refine HT.out.mono ?_
    rintro e w' ⟨rfl, rfl⟩
    go_wp2
    go_ret
    exact ⟨by rw [hE.out]; rfl, by rw [hD.out]; exact H.out, Only.refl _ _⟩

theorem VS.Ok.setOwn {s : VS} {M : Int} (h : s.Ok M) (k : Nat) (v : Int) (hv : -1 ≤ v ∧ v < 64) : (s.setOwn k v).Ok M :=
  ⟨h.self, fun j => by unfold VS.setOwn; simp only; split; exact hv; exact h.own j, h.ep, h.cur⟩

set_option maxRecDepth 100000 in
set_option maxHeartbeats 400000 in
theorem win_any {w : World} {g : Nat} {s : VS} (h : ViewAt w g s) {M : Int} (hok : s.Ok M) (hM0 : 4611686018427387904 ≤ M) (hM : M ≤ 9223372036854775806) (k least : Int) (hl : 0 ≤ least) :
    Calls Try.prog 26 #[.pointer (some ⟨g, 0, none⟩), .int .i64 k, .int .u64 least] w fun e w' => e = .returned (.int .i64 (winE k least)) ∧ ViewAt w' g (s.winD k least) ∧ Only w w' g := by
  have HT := Lib.hid (there_any k w)
  by_cases hc : inSlot k = true ∧ least ≤ 4611686018427387904
  · obtain ⟨ht, hl2⟩ := hc
    obtain ⟨h0, h1⟩ := inSlot_true ht
    obtain ⟨j, rfl⟩ := Int.eq_ofNat_of_zero_le h0
    have hj : j < 16384 := by omega
    have hE : Hid (winE j least = 0) := by unfold winE; rw [if_pos ⟨ht, hl2⟩]; exact rfl
    have hD : Hid (s.winD j least = ((s.setOwn j s.self).setCur (max s.cur least)).raise) := by unfold VS.winD; rw [if_pos ⟨ht, hl2⟩]; exact rfl
    have c0 := h.self
    have c1 := h.own j hj
    have z1 := h.free (1 + j)
    have hs := hok.self
    have hcr := hok.ep 0
    have hcM := hok.cur
    have h1 := h.setOwn j hj s.self
    have hV1 := Lib.hid h1
    have hok2 : ((s.setOwn j s.self).setCur (max s.cur least)).Ok M := by
      have := hok.setOwn j s.self (by omega)
      exact ⟨this.self, this.own, fun n => ⟨(this.ep n).1, by show s.ep n ≤ max s.cur least; have := hok.ep n; omega⟩, by show max s.cur least ≤ M; omega⟩
    have HOk2 := Lib.hid hok2
    have c2 := h1.cur
    have z2 := h1.free 16449
    have c2' : (w.setCell ⟨g, 1 + j, none⟩ (.int .i8 s.self)).cell? ⟨g, 16449, none⟩ = some (.int .u64 s.cur) := c2
    have c3 := h.cur
    have z3 := h.free 16449
    rw [ht] at HT
    clear h hok ht h1 hok2 c2 hcM
    generalize hself : s.self = me at *
    generalize hcur : s.cur = cu at *
    generalize s.own j = oo at *
    go_enter Try.func26, Try.ntmps26
    go_wp2_with fail
    refine HT.out.mono ?_
    rintro e w' ⟨rfl, rfl⟩
    go_wp2_with fail
    go_region
    all_goals go_wp2_with fail
    all_goals first
      | (have hx : max cu least = least := by omega
         rw [hx] at HOk2 hD
         refine (raise_any (hV1.out.setCur least).drew HOk2.out (by omega)).mono ?_
         rintro e w' ⟨rfl, hv, ho⟩
         have HV := Lib.hid hv
         have HO := Lib.hid (((Only.setCell _ _ _ _).trans (Only.setCell _ _ _ _)).drew.trans ho)
         clear hv ho
         go_wp2
         go_ret
         exact ⟨by rw [hE.out]; rfl, by rw [hD.out]; exact HV.out, HO.out⟩)
      | (have hx : max cu least = cu := by omega
         rw [hx] at HOk2 hD
         refine (raise_any (hV1.out.setCur cu).drew HOk2.out (by omega)).mono ?_
         rintro e w' ⟨rfl, hv, ho⟩
         have HV := Lib.hid hv
         have HO := Lib.hid (((Only.setCell _ _ _ _).trans (Only.setCell _ _ _ _)).drew.trans ho)
         clear hv ho
         go_wp2
         go_ret
         exact ⟨by rw [hE.out]; rfl, by rw [hD.out]; exact HV.out, HO.out⟩)
  · have hE : Hid (winE k least = 1) := by unfold winE; rw [if_neg hc]; exact rfl
    have hD : Hid (s.winD k least = s) := by unfold VS.winD; rw [if_neg hc]; exact rfl
    have H := Lib.hid h
    clear h hok
    cases ht : inSlot k with
    | true =>
      have hl3 : 4611686018427387904 < least := by
        rcases Int.lt_or_le 4611686018427387904 least with h | h
        · exact h
        · exact absurd ⟨ht, h⟩ hc
      rw [ht] at HT
      clear ht hc
      go_enter Try.func26, Try.ntmps26
      go_wp2_with fail
      refine HT.out.mono ?_
      rintro e w' ⟨rfl, rfl⟩
      go_wp2
      go_ret
      exact ⟨by rw [hE.out]; rfl, by rw [hD.out]; exact H.out, Only.refl _ _⟩
    | false =>
      rw [ht] at HT
      clear ht hc
      go_enter Try.func26, Try.ntmps26
      go_wp2_with fail
      refine HT.out.mono ?_
      rintro e w' ⟨rfl, rfl⟩
      go_wp2
      go_ret
      exact ⟨by rw [hE.out]; rfl, by rw [hD.out]; exact H.out, Only.refl _ _⟩
end Go.Proofs.Ytlccbgjlinlioaa
