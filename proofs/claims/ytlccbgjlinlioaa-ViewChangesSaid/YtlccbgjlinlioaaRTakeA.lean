/- The document's Take: what is refused. -/
import Derived.Test.YtlccbgjlinlioaaRPlain
import Derived.Test.YtlccbgjlinlioaaRBeat
import Derived.Test.YtlccbgjlinlioaaRTell
namespace Go.Proofs.Ytlccbgjlinlioaa
open Go.RowKit

/-- where Take's walk stands -/
structure RtS (w : World) (g cap me : Nat) (cur : Int) (p : PK) (u : World) : Prop where
  box : Box u w.heap.size (.int .i64 (me : Int)) (.slice (some ⟨g, 0, none⟩) 64 cap) (.int .u64 cur)
  pkt : PktAt u (w.heap.size + 1) p
  res : Box u (w.heap.size + 1 + 1) (.int .i64 0) (.slice none 0 0) (.int .u64 0)
  bel : Below w.heap.size w u
theorem RtS.below {w : World} {g cap me : Nat} {cur : Int} {p : PK} {u u' : World} (h : RtS w g cap me cur p u) (hb : Below u.heap.size u u') : RtS w g cap me cur p u' :=
  ⟨h.box.below hb h.box.lt, (hb.block _ (by have := h.res.lt; omega)).trans h.pkt, h.res.below hb h.res.lt, h.bel.trans (hb.mono h.bel.size)⟩
theorem RtS.only {w : World} {g cap me : Nat} {cur : Int} {p : PK} {u u' : World} {b : Nat} (h : RtS w g cap me cur p u) (hb : Only u u' b) (hlt : w.heap.size + 1 + 1 < b) : RtS w g cap me cur p u' :=
  ⟨h.box.only hb (by omega), (hb.block _ (by have := h.res.lt; omega) (by simp; omega)).trans h.pkt, h.res.only hb (by omega), hb.new h.bel (by omega) h.bel.size⟩
theorem RtS.setBox {w : World} {g cap me : Nat} {cur : Int} {p : PK} {u : World} (h : RtS w g cap me cur p u) (g' cap' : Nat) (cur' : Int) :
    RtS w g' cap' me cur' p (((u.setCell ⟨w.heap.size, 0, none⟩ (.int .i64 (me : Int))).setCell ⟨w.heap.size, 1, none⟩ (.slice (some ⟨g', 0, none⟩) 64 cap')).setCell ⟨w.heap.size, 2, none⟩ (.int .u64 cur')) := by
  have ho := Box.onlySet u w.heap.size (.int .i64 (me : Int)) (.slice (some ⟨g', 0, none⟩) 64 cap') (.int .u64 cur')
  exact ⟨h.box.set _ _ _, (ho.block _ (by have := h.res.lt; omega) (by simp)).trans h.pkt, h.res.only ho (by omega), ho.new h.bel (Nat.le_refl _) h.bel.size⟩
theorem RtS.setCur {w : World} {g cap me : Nat} {cur : Int} {p : PK} {u : World} (h : RtS w g cap me cur p u) (cur' : Int) : RtS w g cap me cur' p (u.setCell ⟨w.heap.size, 2, none⟩ (.int .u64 cur')) := by
  have ho : Only u (u.setCell ⟨w.heap.size, 2, none⟩ (.int .u64 cur')) w.heap.size := Only.setCell _ _ _ _
  exact ⟨h.box.set2 _, (ho.block _ (by have := h.res.lt; omega) (by simp)).trans h.pkt, h.res.only ho (by omega), ho.new h.bel (Nat.le_refl _) h.bel.size⟩
theorem RtS.drew {w : World} {g cap me : Nat} {cur : Int} {p : PK} {u : World} (h : RtS w g cap me cur p u) : RtS w g cap me cur p u.drew := ⟨h.box.drew, h.pkt, h.res.drew, h.bel.drew⟩

theorem rts_start (w : World) (g cap me : Nat) (cur : Int) (p : PK) :
    RtS w g cap me cur p (((w.alloc (.cells #[.int .i64 (me : Int), .slice (some ⟨g, 0, none⟩) 64 cap, .int .u64 cur] 33)).alloc (.cells p.cells.toArray 29)).alloc (.cells #[.int .i64 0, .slice none 0 0, .int .u64 0] 33)) := by
  refine ⟨box_a _ _ _ _ _ _, ?_, ⟨?_⟩, below3 _ _ _ _⟩
  · unfold PktAt
    rw [Below.heap_alloc _ _ _ (by simp)]
    have := heap_alloc_new (w.alloc (.cells #[.int .i64 (me : Int), .slice (some ⟨g, 0, none⟩) 64 cap, .int .u64 cur] 33)) (.cells p.cells.toArray 29)
    simpa using this
  · have := heap_alloc_new ((w.alloc (.cells #[.int .i64 (me : Int), .slice (some ⟨g, 0, none⟩) 64 cap, .int .u64 cur] 33)).alloc (.cells p.cells.toArray 29)) (.cells #[.int .i64 0, .slice none 0 0, .int .u64 0] 33)
    simpa using this

set_option maxRecDepth 100000 in
set_option maxHeartbeats 1600000 in
theorem rtake_no1 {w : World} {B g cap self : Nat} {cur : Int} {N : NS} (h : RN w B g cap N) {p : PK} (hr : p.right = false) :
    Calls Try.prog 37 #[refVal self g cap cur, p.val] w fun e w' => e = .returned (.tuple #[refVal self g cap cur, .slice none 0 0]) ∧ RN w' B g cap N ∧ Below w.heap.size w w' := by
  have hgl := h.lt
  have hs := rts_start w g cap self cur p
  have hrn := h.belowN hs.bel hgl.2
  have HRt := Lib.hid fun (u : World) => rright_any p u
  rw [hr] at HRt
  unfold refVal
  unfold PK.val at *
  have HPS : Hid (p.cells.toArray.size = 261) := by rw [List.size_toArray]; exact p.cells_len
  have HS29 : Hid ((Try.prog.info? 29).map (·.size) = some p.cells.toArray.size) := by rw [HPS.out]; exact size29
  have HPkt : Hid (∀ u : World, PktAt u (w.heap.size + 1) p → u.heap[w.heap.size + 1]? = some (.cells p.cells.toArray 29 (0, 0))) := fun u hu => hu
  generalize p.cells.toArray = PC at *
  generalize hw2 : ((w.alloc (.cells #[.int .i64 (self : Int), .slice (some ⟨g, 0, none⟩) 64 cap, .int .u64 cur] 33)).alloc (.cells PC 29)).alloc (.cells #[.int .i64 0, .slice none 0 0, .int .u64 0] 33) = w2 at *
  have HW2 := Lib.hid hw2
  have HS := Lib.hid hs
  have HRn := Lib.hid hrn
  have HP2 := Lib.hid (HPkt.out w2 hs.pkt)
  have d0 := hs.pkt.kind
  clear hw2 hs hrn h hr
  go_enter Try.func37, Try.ntmps37
  go_upto_region 1 with fail
  rw [HW2.out]
  go_wp2_with (with_reducible refine wpList_load_row rfl 29 (.tmp 3) rfl (w.heap.size + 1) rfl 29 PC (0, 0) _ HP2.out Try.underlying29 rfl HS29.out ?_)
  refine (HRt.out _).mono ?_
  rintro e w3 ⟨rfl, hb3⟩
  have hs3 := HS.out.below hb3
  have HS3 := Lib.hid hs3
  have HR3 := Lib.hid (HRn.out.below hb3)
  have c1 := hs3.pkt.frm
  have c2 := hs3.pkt.of
  have c4 := hs3.pkt.cur
  have a0 := hs3.box.cell0
  have a1 := hs3.box.cell1
  have a2 := hs3.box.cell2
  have b0 := hs3.res.cell0
  have b1 := hs3.res.cell1
  have b2 := hs3.res.cell2
  have zb0 := hs3.res.free 0
  have zb1 := hs3.res.free 1
  have zb2 := hs3.res.free 2
  clear hs3 hb3
  go_wp2
  refine bodyPost_ret (results_box2 (p := 4) (q := 5) rfl (HS3.out.res.set _ _ _) _ rfl) rfl ?_
  exact ⟨rfl, HR3.out.only (Box.onlySet _ _ _ _ _) (by omega), (Box.onlySet _ (w.heap.size + 1 + 1) _ _ _).new HS3.out.bel (by omega) HS3.out.bel.size⟩

set_option maxRecDepth 100000 in
set_option maxHeartbeats 1600000 in
theorem rtake_no2 {w : World} {B g cap self : Nat} {cur : Int} {N : NS} (h : RN w B g cap N) {p : PK} (hr : p.right = true) (hc : 4611686018427387904 < p.cur) :
    Calls Try.prog 37 #[refVal self g cap cur, p.val] w fun e w' => e = .returned (.tuple #[refVal self g cap cur, .slice none 0 0]) ∧ RN w' B g cap N ∧ Below w.heap.size w w' := by
  have hgl := h.lt
  have hs := rts_start w g cap self cur p
  have hrn := h.belowN hs.bel hgl.2
  have HRt := Lib.hid fun (u : World) => rright_any p u
  rw [hr] at HRt
  unfold refVal
  unfold PK.val at *
  have HPS : Hid (p.cells.toArray.size = 261) := by rw [List.size_toArray]; exact p.cells_len
  have HS29 : Hid ((Try.prog.info? 29).map (·.size) = some p.cells.toArray.size) := by rw [HPS.out]; exact size29
  have HPkt : Hid (∀ u : World, PktAt u (w.heap.size + 1) p → u.heap[w.heap.size + 1]? = some (.cells p.cells.toArray 29 (0, 0))) := fun u hu => hu
  generalize p.cells.toArray = PC at *
  generalize hw2 : ((w.alloc (.cells #[.int .i64 (self : Int), .slice (some ⟨g, 0, none⟩) 64 cap, .int .u64 cur] 33)).alloc (.cells PC 29)).alloc (.cells #[.int .i64 0, .slice none 0 0, .int .u64 0] 33) = w2 at *
  have HW2 := Lib.hid hw2
  have HS := Lib.hid hs
  have HRn := Lib.hid hrn
  have HP2 := Lib.hid (HPkt.out w2 hs.pkt)
  have d0 := hs.pkt.kind
  clear hw2 hs hrn h hr
  go_enter Try.func37, Try.ntmps37
  go_upto_region 1 with fail
  rw [HW2.out]
  go_wp2_with (with_reducible refine wpList_load_row rfl 29 (.tmp 3) rfl (w.heap.size + 1) rfl 29 PC (0, 0) _ HP2.out Try.underlying29 rfl HS29.out ?_)
  refine (HRt.out _).mono ?_
  rintro e w3 ⟨rfl, hb3⟩
  have hs3 := HS.out.below hb3
  have HS3 := Lib.hid hs3
  have HR3 := Lib.hid (HRn.out.below hb3)
  have c1 := hs3.pkt.frm
  have c2 := hs3.pkt.of
  have c4 := hs3.pkt.cur
  have a0 := hs3.box.cell0
  have a1 := hs3.box.cell1
  have a2 := hs3.box.cell2
  have b0 := hs3.res.cell0
  have b1 := hs3.res.cell1
  have b2 := hs3.res.cell2
  have zb0 := hs3.res.free 0
  have zb1 := hs3.res.free 1
  have zb2 := hs3.res.free 2
  clear hs3 hb3
  go_wp2
  refine bodyPost_ret (results_box2 (p := 4) (q := 5) rfl (HS3.out.res.set _ _ _) _ rfl) rfl ?_
  exact ⟨rfl, HR3.out.only (Box.onlySet _ _ _ _ _) (by omega), (Box.onlySet _ (w.heap.size + 1 + 1) _ _ _).new HS3.out.bel (by omega) HS3.out.bel.size⟩

set_option maxRecDepth 100000 in
set_option maxHeartbeats 1600000 in
theorem rtake_no3 {w : World} {B g cap self : Nat} {cur : Int} {N : NS} (h : RN w B g cap N) {p : PK} (hr : p.right = true) (hc : p.cur ≤ 4611686018427387904) (hf : p.frm = self) :
    Calls Try.prog 37 #[refVal self g cap cur, p.val] w fun e w' => e = .returned (.tuple #[refVal self g cap cur, .slice none 0 0]) ∧ RN w' B g cap N ∧ Below w.heap.size w w' := by
  have hgl := h.lt
  have hs := rts_start w g cap self cur p
  have hrn := h.belowN hs.bel hgl.2
  have HRt := Lib.hid fun (u : World) => rright_any p u
  rw [hr] at HRt
  unfold refVal
  unfold PK.val at *
  have HPS : Hid (p.cells.toArray.size = 261) := by rw [List.size_toArray]; exact p.cells_len
  have HS29 : Hid ((Try.prog.info? 29).map (·.size) = some p.cells.toArray.size) := by rw [HPS.out]; exact size29
  have HPkt : Hid (∀ u : World, PktAt u (w.heap.size + 1) p → u.heap[w.heap.size + 1]? = some (.cells p.cells.toArray 29 (0, 0))) := fun u hu => hu
  generalize p.cells.toArray = PC at *
  generalize hw2 : ((w.alloc (.cells #[.int .i64 (self : Int), .slice (some ⟨g, 0, none⟩) 64 cap, .int .u64 cur] 33)).alloc (.cells PC 29)).alloc (.cells #[.int .i64 0, .slice none 0 0, .int .u64 0] 33) = w2 at *
  have HW2 := Lib.hid hw2
  have HS := Lib.hid hs
  have HRn := Lib.hid hrn
  have HP2 := Lib.hid (HPkt.out w2 hs.pkt)
  have d0 := hs.pkt.kind
  have hcd : decide (4611686018427387904 < p.cur) = false := decide_eq_false (by omega)
  clear hw2 hs hrn h hr
  go_enter Try.func37, Try.ntmps37
  go_upto_region 1 with fail
  rw [HW2.out]
  go_wp2_with (with_reducible refine wpList_load_row rfl 29 (.tmp 3) rfl (w.heap.size + 1) rfl 29 PC (0, 0) _ HP2.out Try.underlying29 rfl HS29.out ?_)
  refine (HRt.out _).mono ?_
  rintro e w3 ⟨rfl, hb3⟩
  have hs3 := HS.out.below hb3
  have HS3 := Lib.hid hs3
  have HR3 := Lib.hid (HRn.out.below hb3)
  have c1 := hs3.pkt.frm
  have c2 := hs3.pkt.of
  have c4 := hs3.pkt.cur
  have a0 := hs3.box.cell0
  have a1 := hs3.box.cell1
  have a2 := hs3.box.cell2
  have b0 := hs3.res.cell0
  have b1 := hs3.res.cell1
  have b2 := hs3.res.cell2
  have zb0 := hs3.res.free 0
  have zb1 := hs3.res.free 1
  have zb2 := hs3.res.free 2
  rw [hf] at c1
  clear hf
  clear hs3 hb3
  go_wp2
  refine bodyPost_ret (results_box2 (p := 4) (q := 5) rfl (HS3.out.res.set _ _ _) _ rfl) rfl ?_
  exact ⟨rfl, HR3.out.only (Box.onlySet _ _ _ _ _) (by omega), (Box.onlySet _ (w.heap.size + 1 + 1) _ _ _).new HS3.out.bel (by omega) HS3.out.bel.size⟩

set_option maxRecDepth 100000 in
set_option maxHeartbeats 1600000 in
theorem rtake_no4 {w : World} {B g cap self : Nat} {cur : Int} {N : NS} (h : RN w B g cap N) {p : PK} (hr : p.right = true) (hc : p.cur ≤ 4611686018427387904) (hf : p.frm ≠ self) (hk : p.kind = 3) (ho : p.of = self) :
    Calls Try.prog 37 #[refVal self g cap cur, p.val] w fun e w' => e = .returned (.tuple #[refVal self g cap cur, .slice none 0 0]) ∧ RN w' B g cap N ∧ Below w.heap.size w w' := by
  have hgl := h.lt
  have hs := rts_start w g cap self cur p
  have hrn := h.belowN hs.bel hgl.2
  have HRt := Lib.hid fun (u : World) => rright_any p u
  rw [hr] at HRt
  unfold refVal
  unfold PK.val at *
  have HPS : Hid (p.cells.toArray.size = 261) := by rw [List.size_toArray]; exact p.cells_len
  have HS29 : Hid ((Try.prog.info? 29).map (·.size) = some p.cells.toArray.size) := by rw [HPS.out]; exact size29
  have HPkt : Hid (∀ u : World, PktAt u (w.heap.size + 1) p → u.heap[w.heap.size + 1]? = some (.cells p.cells.toArray 29 (0, 0))) := fun u hu => hu
  generalize p.cells.toArray = PC at *
  generalize hw2 : ((w.alloc (.cells #[.int .i64 (self : Int), .slice (some ⟨g, 0, none⟩) 64 cap, .int .u64 cur] 33)).alloc (.cells PC 29)).alloc (.cells #[.int .i64 0, .slice none 0 0, .int .u64 0] 33) = w2 at *
  have HW2 := Lib.hid hw2
  have HS := Lib.hid hs
  have HRn := Lib.hid hrn
  have HP2 := Lib.hid (HPkt.out w2 hs.pkt)
  have d0 := hs.pkt.kind
  have hcd : decide (4611686018427387904 < p.cur) = false := decide_eq_false (by omega)
  have hfb : (p.frm == (self : Int)) = false := by rw [beq_eq_false_iff_ne]; exact hf
  rw [hk] at d0
  clear hk
  clear hw2 hs hrn h hr
  go_enter Try.func37, Try.ntmps37
  go_upto_region 1 with fail
  rw [HW2.out]
  go_wp2_with (with_reducible refine wpList_load_row rfl 29 (.tmp 3) rfl (w.heap.size + 1) rfl 29 PC (0, 0) _ HP2.out Try.underlying29 rfl HS29.out ?_)
  refine (HRt.out _).mono ?_
  rintro e w3 ⟨rfl, hb3⟩
  have hs3 := HS.out.below hb3
  have HS3 := Lib.hid hs3
  have HR3 := Lib.hid (HRn.out.below hb3)
  have c1 := hs3.pkt.frm
  have c2 := hs3.pkt.of
  have c4 := hs3.pkt.cur
  have a0 := hs3.box.cell0
  have a1 := hs3.box.cell1
  have a2 := hs3.box.cell2
  have b0 := hs3.res.cell0
  have b1 := hs3.res.cell1
  have b2 := hs3.res.cell2
  have zb0 := hs3.res.free 0
  have zb1 := hs3.res.free 1
  have zb2 := hs3.res.free 2
  rw [ho] at c2
  clear ho
  clear hs3 hb3
  go_wp2
  refine bodyPost_ret (results_box2 (p := 4) (q := 5) rfl (HS3.out.res.set _ _ _) _ rfl) rfl ?_
  exact ⟨rfl, HR3.out.only (Box.onlySet _ _ _ _ _) (by omega), (Box.onlySet _ (w.heap.size + 1 + 1) _ _ _).new HS3.out.bel (by omega) HS3.out.bel.size⟩

end Go.Proofs.Ytlccbgjlinlioaa
