/- A text with its sum behind it. -/
import Derived.Test.YtfokonoeaifceaaDoorApp
namespace Go.Proofs.YtfokonoeaifceaaDoor
open Go.RowKit CrcM

theorem bytesAt_two (w : World) (x y : Int) : BytesAt (w.alloc (.cells #[.int .u8 x, .int .u8 y] 5)) (.slice (some ⟨w.heap.size, 0, none⟩) 2 2) [x, y] := by
  refine .inr ⟨w.heap.size, 0, 2, rfl, fun i hi => ?_⟩
  have hi' : i < 2 := hi
  rw [Nat.zero_add, World.cell?_alloc_mark]
  rcases (show i = 0 ∨ i = 1 by omega) with rfl | rfl <;> rfl

theorem hi_lo (c : BitVec 16) : (hiB c = (c.toNat : Int) / 256) ∧ (loB c = (c.toNat : Int) % 256) := ⟨by unfold hiB; omega, by unfold loB; omega⟩

set_option maxHeartbeats 400000 in
theorem ends_walk (v : Value) (l : List Int) (w : World) (hv : ∀ w', Below w.heap.size w w' → BytesAt w' v l) (hlen : l.length ≤ 140737488351232) (hb : ∀ x ∈ l, isByte x) (ht : TabAt w) (hB : 0 < w.heap.size) :
    Calls Tryd.prog 8 #[v] w fun e w' => e = .returned (.bool true) ∧ Below w.heap.size w w' := by
  have HT := Lib.hid ht
  have HV := Lib.hid hv
  have HBy := Lib.hid hb
  have HA := Lib.hid (alive_true w ht hB)
  have HS := Lib.hid (sum_bytes v l w (hv w (Below.refl _ _)) (by omega) hb ht)
  clear ht hv hb
  have hc := (crc 0 l).isLt
  have hc' : ((crc 0 l).toNat : Int) < 65536 := by omega
  generalize hg : crc 0 l = c at *
  have HG := Lib.hid hg; clear hg
  go_enter Tryd.func8, Tryd.ntmps8
  go_wp2_with fail
  refine HS.out.mono ?_
  rintro e w' ⟨rfl, rfl⟩
  go_wp2_with fail
  refine HA.out.mono ?_
  rintro e w1 ⟨rfl, hb1⟩
  have HB1 := Lib.hid hb1; clear hb1
  have HO := Lib.hid (own_empty w1 w1.heap.size (Nat.le_refl _))
  have hw0 : Below w1.heap.size w1 (w1.alloc (.cells #[] 5)) := (Below.refl _ _).alloc (Nat.le_refl _) _
  have HW0 := Lib.hid hw0; clear hw0
  go_wp2_with (first
    | (at_builtin; refine wpList_append_bytes rfl (.tmp 8) (.tmp 9) rfl w1.heap.size _ 0 _ rfl HO.out v l rfl (HV.out _ (HB1.out.trans (HW0.out.mono HB1.out.size))) (by omega) HW0.out.size ?_; intro v2 w2 hown2 hbel2; have HO2 := Lib.hid hown2; have HB2 := Lib.hid (HW0.out.trans hbel2); clear hown2 hbel2)
    | (at_builtin; refine wpList_append_bytes rfl (.tmp 10) (.tmp 16) rfl w1.heap.size _ _ _ rfl (HO2.out.alloc _) _ _ rfl (bytesAt_two w2 _ _) (by simp only [List.length_cons, List.length_nil]; omega) (Nat.le_trans HB2.out.size (by simp)) ?_; intro v3 w3 hown3 hbel3; have HO3 := Lib.hid hown3; have HB3 := Lib.hid (HB1.out.trans (((HB2.out.alloc HB2.out.size _).trans hbel3).mono HB1.out.size)); clear hown3 hbel3)
    | fail)
  have hx3 : BytesAt w3 v3 (l ++ [hiB c, loB c]) := by
    have := HO3.out
    refine bytesAt_own (B := w1.heap.size) ?_
    rw [(hi_lo c).1, (hi_lo c).2]
    simpa [byteVals] using this
  have HX3 := Lib.hid hx3; clear hx3
  have he : crc 0 (l ++ [hiB c, loB c]) = 0#16 := by rw [crc_append, HG.out]; exact crc_end c
  have hs := sum_bytes v3 (l ++ [hiB c, loB c]) w3 HX3.out (by simp only [List.length_append, List.length_cons, List.length_nil]; omega) (by
    intro x hx
    rcases List.mem_append.1 hx with h | h
    · exact HBy.out x h
    · rw [(hi_lo c).1, (hi_lo c).2] at h
      simp at h
      unfold isByte
      omega) (HT.out.below HB3.out hB)
  rw [he] at hs
  have HS1 := Lib.hid hs
  clear hs he
  refine HS1.out.mono ?_
  rintro e w' ⟨rfl, rfl⟩
  go_wp2
  go_ret
  exact ⟨rfl, HB3.out⟩
end Go.Proofs.YtfokonoeaifceaaDoor
