/- ViewAll: the walk of the law; what stands behind begun. -/
import Derived.Test.YtlccbgjlinlioaaBegun
import Derived.Test.YtlccbgjlinlioaaStands
namespace Go.Proofs.Ytlccbgjlinlioaa
open Go.RowKit

theorem size26 : (Try.prog.info? 26).map (·.size) = some 258 := by kernel_rfl
/-- where the law stands behind begun: a box for the document's view -/
theorem laws_start {w w1 w2 : World} {g B gr cap : Nat} {s : VS} (hbel : Below w.heap.size w w1) (hb2 : Below w1.heap.size w1 w2) (hv : ViewAt w2 g s) (hrn : RN w2 B gr cap (NS.of s)) :
    LawS w g B gr cap w2.heap.size s (w2.alloc (.cells #[.int .i64 (s.self : Int), .slice (some ⟨gr, 0, none⟩) 64 cap, .int .u64 s.cur] 33)) := by
  have hA : Below w2.heap.size w2 (w2.alloc (.cells #[.int .i64 (s.self : Int), .slice (some ⟨gr, 0, none⟩) 64 cap, .int .u64 s.cur] 33)) := (Below.refl _ _).alloc (Nat.le_refl _) _
  have h2 := hbel.trans (hb2.mono hbel.size)
  exact ⟨hv.below hA, hrn.below hA, box1 w2 _ _ _, h2.trans (hA.mono h2.size)⟩
theorem laws_nil {w w1 w2 : World} (hbel : Below w.heap.size w w1) (hb2 : Below w1.heap.size w1 w2) (o : Obj) : Below w.heap.size w (w2.alloc o) := by
  have h2 := hbel.trans (hb2.mono hbel.size)
  exact h2.alloc h2.size _

set_option maxRecDepth 100000 in
set_option maxHeartbeats 1600000 in
theorem all_walk {w : World} {q : BG} (hq : q.Ok) {v : Value} {os : List OPV} (hos : OpsIn w v os) :
    Calls Try.prog 7 #[q.val, v] w fun e w' => e = .returned (.bool true) ∧ Below w.heap.size w w' := by
  have hb0 : (w.alloc (.cells q.cells.toArray 26)).heap[w.heap.size]? = some (.cells q.cells.toArray 26 (0, 0)) := heap_alloc_new w _
  have hbel : Below w.heap.size w (w.alloc (.cells q.cells.toArray 26)) := (Below.refl _ _).alloc (Nat.le_refl _) _
  have HBg := Lib.hid fun (u : World) (hu : OpsIn u v os) => begun_any hq hu
  have HOs := Lib.hid (hos.belowN hbel)
  have HS26 : Hid ((Try.prog.info? 26).map (·.size) = some q.cells.toArray.size) := by rw [List.size_toArray, BG.cells_len]; exact size26
  have HAl := Lib.hid alive_any
  unfold BG.val at *
  generalize q.cells.toArray = QC at *
  generalize hw1 : w.alloc (.cells QC 26) = w1 at *
  have HW1 := Lib.hid hw1
  have HB0 := Lib.hid hb0
  have HBel := Lib.hid hbel
  clear hw1 hb0 hbel hos hq
  go_enter Try.func7, Try.ntmps7
  go_upto_region 1 with fail
  rw [HW1.out]
  go_wp2_with (with_reducible refine wpList_load_row rfl 26 (.tmp 2) rfl w.heap.size rfl 26 QC (0, 0) _ HB0.out Try.underlying26 rfl HS26.out ?_)
  refine (HBg.out _ HOs.out).mono ?_
  rintro e w2 ⟨hb2, ⟨me, ao, n, cap, cur, rfl⟩ | ⟨g, gr, cap, B, s, rfl, hv, hgl, hgB, hrn, hok⟩⟩
  · have HB2 := Lib.hid (laws_nil HBel.out hb2)
    clear hb2
    go_wp2_with fail
    refine (HAl.out _).mono ?_
    rintro e w3 ⟨rfl, hb3⟩
    have HB3 := Lib.hid ((HB2.out _).trans (hb3.mono (HB2.out _).size))
    clear hb3
    go_wp2
    go_ret
    exact ⟨rfl, HB3.out⟩
  · have HS := Lib.hid (laws_start HBel.out hb2 hv hrn)
    have HOk := Lib.hid hok
    unfold refVal
    clear hb2 hv hrn hok
    go_upto_region 2 with fail
    generalize w2.alloc (.cells #[.int .i64 (s.self : Int), .slice (some ⟨gr, 0, none⟩) 64 cap, .int .u64 s.cur] 33) = w3 at *
    generalize w2.heap.size = r at *
    go_wp2_with fail
    refine (HAl.out _).mono ?_
    rintro e w4 ⟨rfl, hb4⟩
    have HS4 := Lib.hid (HS.out.belowW hb4)
    clear hb4
    have a0 := HS4.out.box.cell0
    have a1 := HS4.out.box.cell1
    have a2 := HS4.out.box.cell2
    have HSt := Lib.hid (stands_any HS4.out.view HS4.out.rn HOk.out)
    unfold refVal at HSt
    go_wp2_with fail
    refine HSt.out.mono ?_
    rintro e w5 ⟨rfl, hb5⟩
    have HB5 := Lib.hid (HS4.out.bel.trans (hb5.mono HS4.out.bel.size))
    clear hb5
    go_wp2
    go_ret
    exact ⟨rfl, HB5.out⟩
end Go.Proofs.Ytlccbgjlinlioaa
