/- Two texts, xored. -/
import Derived.Test.YtfokonoeaifceaaDoorApp
import Derived.RegionTactic
import Derived.BigQuiet
import Derived.Deep.DeepCutAuto
namespace Go.Proofs.YtfokonoeaifceaaDoor
open Go.RowKit CrcM

/-- What a slice value that came in offers: its length, its capacity, its bytes. -/
structure BytesIn (w : World) (ao : Option Addr) (cap : Nat) (l : List Int) : Prop where
  fits : l.length ≤ cap
  bytes : ∀ x ∈ l, isByte x
  none : ao = Option.none → cap = 0
  cells : ∀ k, k < l.length → ∃ b off, ao = some ⟨b, off, Option.none⟩ ∧ b < w.heap.size ∧ ∀ i, i < l.length → w.cell? ⟨b, off + i, Option.none⟩ = some (.int .u8 (l.getD i 0))

theorem BytesIn.at {w w' : World} {ao : Option Addr} {cap : Nat} {l : List Int} (h : BytesIn w ao cap l) (hb : Below w.heap.size w w') (n : Nat) (hn : n ≤ l.length) : BytesAt w' (.slice ao n cap) (l.take n) := by
  by_cases h0 : n = 0
  · subst h0
    refine .inl ⟨by simp, ?_⟩
    cases ao with
    | none => exact .inl (by rw [h.none rfl])
    | some ad => exact .inr ⟨ad, cap, rfl⟩
  · obtain ⟨b, off, rfl, hbW, hc⟩ := h.cells 0 (by omega)
    refine .inr ⟨b, off, cap, by rw [List.length_take, Nat.min_eq_left hn], fun i hi => ?_⟩
    rw [List.length_take] at hi
    rw [hb.cell (p := ⟨b, off + i, Option.none⟩) hbW, hc i (by omega)]
    simp [List.getD, show i < n by omega]

theorem bits_xor8 (x y : Int) (hx : isByte x) (hy : isByte y) : bits .xor .u8 x y = bxor x y := by
  obtain ⟨h0, h1⟩ := hx
  obtain ⟨g0, g1⟩ := hy
  obtain ⟨n, rfl⟩ := Int.eq_ofNat_of_zero_le h0
  obtain ⟨m, rfl⟩ := Int.eq_ofNat_of_zero_le g0
  rw [u8_xor_nat _ _ (by omega) (by omega)]
  unfold bxor
  rw [BitVec.toNat_xor]
  have hn : (BitVec.ofInt 8 (n : Int)).toNat = n := by simp only [BitVec.toNat_ofInt]; omega
  have hm : (BitVec.ofInt 8 (m : Int)).toNat = m := by simp only [BitVec.toNat_ofInt]; omega
  rw [hn, hm]

/-- behind k rounds -/
def xrow (la lb : List Int) (n k : Nat) : List Int := bxors (la.take k) (lb.take k) ++ List.replicate (n - k) 0

theorem bxors_length (a b : List Int) : (bxors a b).length = min a.length b.length := by
  induction a generalizing b with
  | nil => cases b <;> simp [bxors]
  | cons x a ih => cases b with
    | nil => simp [bxors]
    | cons y b => simp [bxors, ih]

theorem bxors_snoc (a b : List Int) (x y : Int) (h : a.length = b.length) : bxors (a ++ [x]) (b ++ [y]) = bxors a b ++ [bxor x y] := by
  induction a generalizing b with
  | nil => cases b with
    | nil => rfl
    | cons y b => simp at h
  | cons z a ih => cases b with
    | nil => simp at h
    | cons u b => simp [bxors, ih b (by simpa using h)]

theorem xrow_length (la lb : List Int) (n k : Nat) (hk : k ≤ n) (ha : n ≤ la.length) (hb : n ≤ lb.length) : (xrow la lb n k).length = n := by
  unfold xrow
  rw [List.length_append, bxors_length]
  simp
  omega

theorem xrow_set (la lb : List Int) (n k : Nat) (hk : k < n) (ha : n ≤ la.length) (hb : n ≤ lb.length) :
    (xrow la lb n k).set k (bxor (la.getD k 0) (lb.getD k 0)) = xrow la lb n (k + 1) := by
  unfold xrow
  rw [List.take_succ_eq_append_getElem (show k < la.length by omega), List.take_succ_eq_append_getElem (show k < lb.length by omega),
    bxors_snoc _ _ _ _ (by simp; omega), List.set_append_right _ _ (by rw [bxors_length]; simp; omega)]
  have e : k - (bxors (la.take k) (lb.take k)).length = 0 := by rw [bxors_length]; simp; omega
  rw [e, show n - k = (n - (k + 1)) + 1 by omega, List.replicate_succ]
  simp [show k < la.length by omega, show k < lb.length by omega]

theorem xrow_bytes (la lb : List Int) : ∀ x ∈ bxors la lb, isByte x := by
  induction la generalizing lb with
  | nil => cases lb <;> simp [bxors]
  | cons y la ih => cases lb with
    | nil => simp [bxors]
    | cons z lb =>
      intro x hx
      simp only [bxors, List.mem_cons] at hx
      rcases hx with rfl | hx
      · exact bxor_byte _ _
      · exact ih lb x hx

/-- A REGION THAT DRAWS ITS ORDER, each of its operations of one value in every world of a class: one walk, in the order of the text. -/
theorem wp_region_class {P : Program} {C : World → Prop} {id : Nat} {Q : Exit → Act → World → Prop} {a : Act} {w : World} {l : List Oper} (hm : P.follows .mixedOrders = true) (hB : Region.lexB .any l.toArray = true) (hC : C w.drew)
    (h : wpQuiet P l.toArray C (fun a' => ∀ w', C w' → Q .normal a' w') l a) : (Code.region id l.toArray true).wp P Q a w :=
  wp_region_quiet (C := C) hm hB hC (by simpa using h)

theorem class_call {P : Program} {C : World → Prop} {f : FuncId} {args : Array Value} {w : World} {v : Value} {R : World → Prop} (h : Calls P f args w fun e w' => e = .returned v ∧ R w') (hR : ∀ w', R w' → C w') :
    Calls P f args w fun e w'' => e = .returned v ∧ C w'' := h.mono fun _ _ ⟨he, hr⟩ => ⟨he, hR _ hr⟩

set_option maxHeartbeats 800000 in
theorem xors_walk (aa ab : Option Addr) (ca cb : Nat) (la lb : List Int) (w : World) (ha : BytesIn w aa ca la) (hb : BytesIn w ab cb lb) (hla : la.length ≤ 140737488351232) (ht : TabAt w) (hB : 0 < w.heap.size) :
    Calls Tryd.prog 7 #[.slice aa la.length ca, .slice ab lb.length cb] w fun e w' => e = .returned (.bool true) ∧ Below w.heap.size w w' := by
  have HT := Lib.hid ht
  have HA := Lib.hid ha
  have HBb := Lib.hid hb
  clear ht ha hb
  obtain ⟨n, hn⟩ : ∃ n, n = min la.length lb.length := ⟨_, rfl⟩
  have hna : n ≤ la.length := by omega
  have hnb : n ≤ lb.length := by omega
  have HN := Lib.hid hn; clear hn
  go_enter Tryd.func7, Tryd.ntmps7
  go_upto_region 1 with fail
  go_cut [5] (fun v wx => v = .int .i64 n ∧ w = wx)
  case first =>
    go_wp2_with fail
    all_goals go_meet
    all_goals exact ⟨congrArg (fun z : Nat => Value.int .i64 (z : Int)) (by have := HN.out; omega), rfl⟩
  case rest =>
    obtain ⟨rfl, rfl⟩ := hcut
    go_wp2_with (at_make; refine wpList_make_bytes rfl (.tmp 13) rfl n rfl (by omega) ?_; intro w2 hown2 hbel2; have HO2 := Lib.hid hown2; have HB2 := Lib.hid hbel2; clear hown2 hbel2)
    have hx0 : xrow la lb n 0 = List.replicate n 0 := by simp [xrow, bxors]
    have HO0 : Hid (w2.ownsRow w.heap.size 5 1 (Value.slice (some ⟨w.heap.size, 0, none⟩) n n) n (byteVals (xrow la lb n 0))) := by rw [hx0]; exact HO2.out
    clear hx0 HO2
    go_loopw [17] (fun c wr => ∃ k : Nat, k ≤ n ∧ c = .int .i64 k ∧ wr.ownsRow w.heap.size 5 1 (.slice (some ⟨w.heap.size, 0, none⟩) n n) n (byteVals (xrow la lb n k)) ∧ Below w.heap.size w wr) (fun c _ => n - (intOf c).toNat)
    case atStart => exact ⟨0, Nat.zero_le _, rfl, HO0.out, HB2.out⟩
    case round =>
      obtain ⟨k, hk, rfl, hown, hbel⟩ := hrel
      have HO := Lib.hid hown; clear hown
      have HB := Lib.hid hbel; clear hbel
      by_cases hlt : k < n
      · obtain ⟨xa, hxa⟩ : ∃ x, x = la.getD k 0 := ⟨_, rfl⟩
        obtain ⟨xb, hxb⟩ : ∃ x, x = lb.getD k 0 := ⟨_, rfl⟩
        obtain ⟨z, hz⟩ : ∃ x, x = bxor xa xb := ⟨_, rfl⟩
        have hya : isByte xa := by rw [hxa]; exact HA.out.bytes _ (by simp [show k < la.length by omega])
        have hyb : isByte xb := by rw [hxb]; exact HBb.out.bytes _ (by simp [show k < lb.length by omega])
        obtain ⟨ba, oa, hea, hba, hca⟩ := HA.out.cells k (by omega)
        obtain ⟨bb, ob, heb, hbb, hcb⟩ := HBb.out.cells k (by omega)
        subst hea heb
        have c1 : wr.cell? ⟨ba, oa + k, none⟩ = some (.int .u8 xa) := by rw [HB.out.cell (p := ⟨ba, oa + k, none⟩) hba, hxa]; exact hca k (by omega)
        have c2 : wr.cell? ⟨bb, ob + k, none⟩ = some (.int .u8 xb) := by rw [HB.out.cell (p := ⟨bb, ob + k, none⟩) hbb, hxb]; exact hcb k (by omega)
        obtain ⟨old, c3⟩ : ∃ old, wr.cell? ⟨w.heap.size, k, none⟩ = some old := by
          have hl := xrow_length la lb n k hk hna hnb
          have h3 := HO.out.cellAt k (by omega)
          exact ⟨_, h3.trans (List.getElem?_eq_getElem (by simp [byteVals]; omega))⟩
        have c4 := HO.out.frozenAt k
        have e1 : bits .xor .u8 xa xb = z := by rw [hz]; exact bits_xor8 xa xb hya hyb
        have hs := xrow_set la lb n k hlt hna hnb
        rw [← hxa, ← hxb, ← hz] at hs
        have HS := Lib.hid hs
        clear hs hz hxa hxb hba hca hbb hcb hya hyb
        have hlaN : (k : Int) < la.length := by omega
        have hlbN : (k : Int) < lb.length := by omega
        go_wp2
        go_region
        all_goals go_wp2
        go_roundw
        case rel =>
          refine ⟨k + 1, by omega, by go_num, ?_, (HB.out.setCell (Nat.le_refl _) _).drew⟩
          have h := (HO.out.stored k (Value.int .u8 z)).1.drew
          rw [← HS.out]
          simpa [byteVals, List.map_set] using h
        case measure => simp [intOf]; omega
      · have hk2 : k = n := by omega
        subst hk2
        have hcaI : (k : Int) ≤ ca := by have := HA.out.fits; omega
        have hcbI : (k : Int) ≤ cb := by have := HBb.out.fits; omega
        obtain ⟨C, hC⟩ : ∃ C : World → Prop, C = fun w' => Below wr.heap.size wr w' := ⟨_, rfl⟩
        have hC0 : C wr.drew := by rw [hC]; exact (Below.refl _ _).drew
        have hCi : ∀ w', C w' → Below wr.heap.size wr w' := fun w' h => by rw [hC] at h; exact h
        have hCo : ∀ w', Below wr.heap.size wr w' → C w' := fun w' h => by rw [hC]; exact h
        have HCi := Lib.hid hCi
        have HCo := Lib.hid hCo
        clear hCi hCo hC
        have HB' : ∀ w', Below wr.heap.size wr w' → Below w.heap.size w w' := fun w' h => HB.out.trans (h.mono HB.out.size)
        have k1 : ∀ w', C w' → Calls Tryd.prog 11 #[] w' fun e w'' => e = .returned (.bool true) ∧ C w'' := fun w' hw' =>
          class_call (alive_true w' (HT.out.below (HB' _ (HCi.out _ hw')) hB) (by have := (HB' _ (HCi.out _ hw')).size; omega)) fun w'' h => HCo.out _ ((HCi.out _ hw').trans (h.mono (HCi.out _ hw').size))
        have hx : BytesAt wr (.slice (some ⟨w.heap.size, 0, none⟩) k k) (bxors (la.take k) (lb.take k)) := by
          have h := HO.out
          have e : xrow la lb k k = bxors (la.take k) (lb.take k) := by simp [xrow]
          have hl : (bxors (la.take k) (lb.take k)).length = k := by rw [bxors_length]; simp; omega
          rw [e] at h
          refine bytesAt_own (B := w.heap.size) ?_
          rw [hl]
          exact h
        have k2 : ∀ w', C w' → Calls Tryd.prog 12 #[.slice (some ⟨w.heap.size, 0, none⟩) k k] w' fun e w'' => e = .returned (.int .u16 (crc 0 (bxors (la.take k) (lb.take k))).toNat) ∧ C w'' := fun w' hw' =>
          class_call (R := fun w'' => w' = w'') (sum_bytes _ _ w' (hx.below (HCi.out _ hw')) (by rw [bxors_length]; simp; omega) (xrow_bytes _ _) (HT.out.below (HB' _ (HCi.out _ hw')) hB)) fun w'' h => h ▸ hw'
        have k3 : ∀ w', C w' → Calls Tryd.prog 12 #[.slice aa k ca] w' fun e w'' => e = .returned (.int .u16 (crc 0 (la.take k)).toNat) ∧ C w'' := fun w' hw' =>
          class_call (R := fun w'' => w' = w'') (sum_bytes _ _ w' (HA.out.at (HB' _ (HCi.out _ hw')) k hna) (by simp; omega) (fun x hx => HA.out.bytes x (List.mem_of_mem_take hx)) (HT.out.below (HB' _ (HCi.out _ hw')) hB)) fun w'' h => h ▸ hw'
        have k4 : ∀ w', C w' → Calls Tryd.prog 12 #[.slice ab k cb] w' fun e w'' => e = .returned (.int .u16 (crc 0 (lb.take k)).toNat) ∧ C w'' := fun w' hw' =>
          class_call (R := fun w'' => w' = w'') (sum_bytes _ _ w' (HBb.out.at (HB' _ (HCi.out _ hw')) k hnb) (by simp; omega) (fun x hx => HBb.out.bytes x (List.mem_of_mem_take hx)) (HT.out.below (HB' _ (HCi.out _ hw')) hB)) fun w'' h => h ▸ hw'
        have hxo : crc 0 (bxors (la.take k) (lb.take k)) = crc 0 (la.take k) ^^^ crc 0 (lb.take k) := by
          exact crc_xor (la.take k) (lb.take k) 0 0 (by simp; omega) (fun x hx => HA.out.bytes x (List.mem_of_mem_take hx)) (fun x hx => HBb.out.bytes x (List.mem_of_mem_take hx))
        rw [hxo] at k2
        generalize crc 0 (la.take k) = sa at k2 k3
        generalize crc 0 (lb.take k) = sb at k2 k4
        have e1 : bits .xor .u16 (sa.toNat : Int) (sb.toNat : Int) = ((sa ^^^ sb).toNat : Int) := bits_xor16 _ _
        generalize sa ^^^ sb = sc at k2 e1
        have K1 := Lib.hid k1
        have K2 := Lib.hid k2
        have K3 := Lib.hid k3
        have K4 := Lib.hid k4
        clear k1 k2 k3 k4 hx hxo HB'
        go_wp2_with fail
        refine wp_region_class (C := C) (by kernel_rfl) (by kernel_rfl) hC0 ?_
        repeat (first
          | go_big_quiet_skip
          | (go_big_quiet_want; go_big_quiet_op; first
              | go_big_quiet_on
              | (refine ⟨_, fun _ _ => rfl, ?_⟩; go_big_quiet_on)
              | (refine ⟨_, K1.out, ?_⟩; go_big_quiet_on)
              | (refine ⟨_, K2.out, ?_⟩; go_big_quiet_on)
              | (refine ⟨_, K3.out, ?_⟩; go_big_quiet_on)
              | (refine ⟨_, K4.out, ?_⟩; go_big_quiet_on)))
        refine wpQuiet_nil ?_
        intro w3 hw3
        have HB3 := Lib.hid (HB.out.trans ((HCi.out _ hw3).mono HB.out.size))
        go_wp2
        go_ret
        exact ⟨rfl, HB3.out⟩
end Go.Proofs.YtfokonoeaifceaaDoor
