/- The document's copied, raise. -/
import Derived.Test.YtlccbgjlinlioaaRefMem
namespace Go.Proofs.Ytlccbgjlinlioaa
open Go.RowKit

theorem below3 (w : World) (a b c : Obj) : Below w.heap.size w (((w.alloc a).alloc b).alloc c) := (((Below.refl _ _).alloc (Nat.le_refl _) _).alloc (by simp) _).alloc (by simp; omega) _
theorem box_a (w : World) (x y z : Value) (b c : Obj) : Box (((w.alloc (.cells #[x, y, z] 33)).alloc b).alloc c) w.heap.size x y z := ⟨by
  rw [Below.heap_alloc _ _ _ (by simp; omega), Below.heap_alloc _ _ _ (by simp)]
  exact heap_alloc_new w _⟩
theorem box_b (w : World) (x y z : Value) (a c : Obj) : Box (((w.alloc a).alloc (.cells #[x, y, z] 33)).alloc c) (w.heap.size + 1) x y z := ⟨by
  rw [Below.heap_alloc _ _ _ (by simp)]
  have := heap_alloc_new (w.alloc a) (.cells #[x, y, z] 33)
  simpa using this⟩
theorem Box.grown {w w' : World} {g : Nat} {x y z : Value} {row : Option Nat} (h : Box w g x y z) (hb : w.grownBy w' row) (hne : some g ≠ row) : Box w' g x y z := ⟨(hb.block g h.lt hne).trans h.heap⟩

set_option maxRecDepth 100000 in
set_option maxHeartbeats 1600000 in
theorem copied_any {w : World} {B g cap self : Nat} {cur : Int} {N : NS} (h : RN w B g cap N) :
    Calls Try.prog 50 #[refVal self g cap cur] w fun e w' => ∃ g' cap', e = .returned (refVal self g' cap' cur) ∧ RN w' w.heap.size g' cap' N ∧ Below w.heap.size w w' := by
  have H := Lib.hid h
  have hgl := h.lt.2
  unfold refVal
  go_enter Try.func50, Try.ntmps50
  go_wp2_with fail
  have hbel := below3 w (.cells #[.int .i64 (self : Int), .slice (some ⟨g, 0, none⟩) 64 cap, .int .u64 cur] 33) (.cells #[.int .i64 0, .slice none 0 0, .int .u64 0] 33) (.cells #[] 61)
  have hxa := box_a w (.int .i64 (self : Int)) (.slice (some ⟨g, 0, none⟩) 64 cap) (.int .u64 cur) (.cells #[.int .i64 0, .slice none 0 0, .int .u64 0] 33) (.cells #[] 61)
  have hxb := box_b w (.int .i64 0) (.slice none 0 0) (.int .u64 0) (.cells #[.int .i64 (self : Int), .slice (some ⟨g, 0, none⟩) 64 cap, .int .u64 cur] 33) (.cells #[] 61)
  have hown : ((((w.alloc (.cells #[.int .i64 (self : Int), .slice (some ⟨g, 0, none⟩) 64 cap, .int .u64 cur] 33)).alloc (.cells #[.int .i64 0, .slice none 0 0, .int .u64 0] 33)).alloc (.cells #[] 61))).ownsRow (w.heap.size + 1 + 1) 61 257 (.slice (some ⟨w.heap.size + 1 + 1, 0, none⟩) 0 0) 0 [] := by
    have := World.ownsRow_lit (base := w.heap.size + 1 + 1) (e := 61) (size := 257) ((w.alloc (.cells #[.int .i64 (self : Int), .slice (some ⟨g, 0, none⟩) 64 cap, .int .u64 cur] 33)).alloc (.cells #[.int .i64 0, .slice none 0 0, .int .u64 0] 33)) #[] 0 (by simp) (by simp only [maxLen]; omega) (by simp)
    simpa using this
  have hsz : w.heap.size + 1 + 1 < ((((w.alloc (.cells #[.int .i64 (self : Int), .slice (some ⟨g, 0, none⟩) 64 cap, .int .u64 cur] 33)).alloc (.cells #[.int .i64 0, .slice none 0 0, .int .u64 0] 33)).alloc (.cells #[] 61))).heap.size := by simp
  generalize ((w.alloc (.cells #[.int .i64 (self : Int), .slice (some ⟨g, 0, none⟩) 64 cap, .int .u64 cur] 33)).alloc (.cells #[.int .i64 0, .slice none 0 0, .int .u64 0] 33)).alloc (.cells #[] 61) = wn at *
  have hrn := h.belowN hbel hgl
  refine wp_append_own _ (.tmp 3) (.tmp 5) 31 rfl (w.heap.size + 1 + 1) 61 Try.t61 (.agg zeroNode) 257 2056 under31 info61 t61zero t61size t61bytes zeroNode_size (by decide) (.slice (some ⟨w.heap.size + 1 + 1, 0, none⟩) 0 0) 0 [] rfl hown ⟨g, 0, none⟩ 64 cap (nodesList N) rfl (by rw [nodesList_len]) ?_ (nodes_one N) (by simp only [maxLen]; omega) (by omega) (by omega) ?_
  · intro j u hu
    have hj : j < 16448 := by
      rw [← nodesList_len N]
      exact (List.getElem?_eq_some_iff.1 hu).1
    rw [Addr.add_mid, Nat.zero_add, World.ownsRow.cellAt hrn j (by omega)]
    exact hu
  intro v' w' hown' hgr _
  simp only [Nat.zero_add, List.nil_append] at hown'
  obtain ⟨sp, cap', rfl, hsp⟩ := own_form hown'
  obtain ⟨g', rfl⟩ := hsp (by omega)
  have hya := hxa.grown hgr (by simp [Value.ownBlock]; omega)
  have hyb := hxb.grown hgr (by simp [Value.ownBlock])
  have hrn' : RN w' (w.heap.size + 1 + 1) g' cap' N := hown'
  have hb' : Below w.heap.size w w' := ⟨hgr.os.trans hbel.os, hgr.tape.trans hbel.tape, hgr.output.trans hbel.output, Nat.le_trans hbel.size hgr.size, fun k hk => (hgr.block k (by omega) (by simp [Value.ownBlock]; omega)).trans (hbel.block k hk)⟩
  have HA := Lib.hid hya
  have HBx := Lib.hid hyb
  have HR := Lib.hid hrn'
  have HBel := Lib.hid hb'
  have a0 := hya.cell0
  have a1 := hya.cell1
  have a2 := hya.cell2
  have za := hya.free 1
  have b0 := hyb.cell0
  have b1 := hyb.cell1
  have b2 := hyb.cell2
  have zb0 := hyb.free 0
  have zb1 := hyb.free 1
  have zb2 := hyb.free 2
  clear hya hyb hrn' hb' hown' hgr hxa hxb hown hbel hrn hsz h
  simp only [Act.put, List.setIfInBounds_toArray, List.set_cons_zero, List.set_cons_succ]
  go_wp2
  have hlt := HR.out.lt
  have ho1 : Only w' (w'.setCell ⟨w.heap.size, 1, none⟩ (.slice (some ⟨g', 0, none⟩) 64 cap')) w.heap.size := Only.setCell _ _ _ _
  refine bodyPost_ret (results_box1 (p := 2) rfl ((HBx.out.only ho1 (by omega)).set _ _ _) _ rfl) rfl ?_
  refine ⟨g', cap', rfl, ((HR.out.only ho1 (by omega)).only (Box.onlySet _ _ _ _ _) (by omega)).mono (by omega), ?_⟩
  have h1 : Below w.heap.size w (w'.setCell ⟨w.heap.size, 1, none⟩ (.slice (some ⟨g', 0, none⟩) 64 cap')) := ho1.new HBel.out (Nat.le_refl _) HBel.out.size
  exact (Box.onlySet _ (w.heap.size + 1) _ _ _).new h1 (by omega) h1.size

set_option maxRecDepth 100000 in
set_option maxHeartbeats 1600000 in
theorem rraise_any {w : World} {B g cap self : Nat} {cur : Int} {N : NS} (h : RN w B g cap N) (hs : self < 64) (hc : 0 ≤ cur ∧ cur ≤ 9223372036854775807) :
    Calls Try.prog 52 #[refVal self g cap cur] w fun e w' => e = .returned (refVal self g cap (cur + 1)) ∧ RN w' B g cap (N.setEp self (cur + 1)) ∧ Only w w' g := by
  have hgl := h.lt.2
  have hsi : (0 : Int) ≤ (self : Int) ∧ (self : Int) < 64 := by omega
  have hb2 := below2 w (.cells #[.int .i64 (self : Int), .slice (some ⟨g, 0, none⟩) 64 cap, .int .u64 cur] 33) (.cells #[.int .i64 0, .slice none 0 0, .int .u64 0] 33)
  have hr2 := h.belowN hb2 hgl
  have HR := Lib.hid hr2
  have HB2 := Lib.hid hb2
  have HBx : Hid (Box ((w.alloc (.cells #[.int .i64 (self : Int), .slice (some ⟨g, 0, none⟩) 64 cap, .int .u64 cur] 33)).alloc (.cells #[.int .i64 0, .slice none 0 0, .int .u64 0] 33)) (w.heap.size + 1) (.int .i64 0) (.slice none 0 0) (.int .u64 0)) := box2 _ _ _ _ _
  have hxa : Box ((w.alloc (.cells #[.int .i64 (self : Int), .slice (some ⟨g, 0, none⟩) 64 cap, .int .u64 cur] 33)).alloc (.cells #[.int .i64 0, .slice none 0 0, .int .u64 0] 33)) w.heap.size (.int .i64 (self : Int)) (.slice (some ⟨g, 0, none⟩) 64 cap) (.int .u64 cur) := ⟨by
    rw [Below.heap_alloc _ _ _ (by simp)]
    exact heap_alloc_new w _⟩
  have HA := Lib.hid hxa
  have e0 := hr2.ep self hs
  have z0 := hr2.free (self * 257)
  have a0 := hxa.cell0
  have a1 := hxa.cell1
  have a2 := hxa.cell2
  have za := hxa.free 2
  have b0 := HBx.out.cell0
  have b1 := HBx.out.cell1
  have b2 := HBx.out.cell2
  have zb0 := HBx.out.free 0
  have zb1 := HBx.out.free 1
  have zb2 := HBx.out.free 2
  have n1 : g ≠ w.heap.size := by omega
  have n2 : g ≠ w.heap.size + 1 := by omega
  have n3 : w.heap.size ≠ g := by omega
  have n4 : w.heap.size + 1 ≠ g := by omega
  unfold refVal
  generalize hw2 : (w.alloc (.cells #[.int .i64 (self : Int), .slice (some ⟨g, 0, none⟩) 64 cap, .int .u64 cur] 33)).alloc (.cells #[.int .i64 0, .slice none 0 0, .int .u64 0] 33) = w2 at *
  have HW2 := Lib.hid hw2
  clear h hb2 hr2 hw2 hxa
  go_enter Try.func52, Try.ntmps52
  go_upto_region 1 with fail
  rw [HW2.out]
  go_wp2
  have o1 : Only w2 (w2.setCell ⟨w.heap.size, 2, none⟩ (.int .u64 (cur + 1))) w.heap.size := Only.setCell _ _ _ _
  have r1 := (HR.out.only o1 n1).setEp self hs (cur + 1)
  have x1 := (HBx.out.only o1 (by omega)).only (Only.setCell _ g (self * 257) (.int .u64 (cur + 1))) n4
  have oo : Only w _ g := (((below_only HB2.out g).fresh o1 (Nat.le_refl _)).trans (Only.setCell _ g (self * 257) (.int .u64 (cur + 1)))).fresh (Box.onlySet _ (w.heap.size + 1) (.int .i64 (self : Int)) (.slice (some ⟨g, 0, none⟩) 64 cap) (.int .u64 (cur + 1))) (by omega)
  refine bodyPost_ret (results_box1 (p := 2) rfl (x1.set _ _ _) _ rfl) rfl ?_
  exact ⟨rfl, r1.only (Box.onlySet _ _ _ _ _) n2, oo⟩
end Go.Proofs.Ytlccbgjlinlioaa
