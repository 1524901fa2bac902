/- The document's Take whole; Do. -/
import Derived.Test.YtlccbgjlinlioaaRTakeC
import Derived.Test.YtlccbgjlinlioaaRWin
import Derived.Test.YtlccbgjlinlioaaRNew
namespace Go.Proofs.Ytlccbgjlinlioaa
open Go.RowKit

theorem rtake_any {w : World} {B g cap : Nat} {s : VS} (h : RN w B g cap (NS.of s)) {M : Int} (hok : s.Ok M) (hM : 4611686018427387904 ≤ M) (hM2 : M ≤ 9223372036854775806) {p : PK} (hp : p.Ok) :
    Calls Try.prog 37 #[refVal s.self g cap s.cur, p.val] w fun e w' => ∃ g' cap' v, e = .returned (.tuple #[refVal s.self g' cap' (s.takeD p).cur, v]) ∧ RowAt w' w.heap.size v (s.takeL p) ∧ RN w' B g' cap' (NS.of (s.takeD p)) ∧ Below w.heap.size w w' := by
  cases hr : s.refuses p with
  | true =>
    have hD : s.takeD p = s := by unfold VS.takeD; rw [if_pos hr]
    have hL : s.takeL p = [] := by unfold VS.takeL; rw [if_pos hr]
    rw [hD, hL]
    have key : Calls Try.prog 37 #[refVal s.self g cap s.cur, p.val] w fun e w' => e = .returned (.tuple #[refVal s.self g cap s.cur, .slice none 0 0]) ∧ RN w' B g cap (NS.of s) ∧ Below w.heap.size w w' := by
      cases h1 : p.right with
      | false => exact rtake_no1 h h1
      | true =>
        by_cases h2 : 4611686018427387904 < p.cur
        · exact rtake_no2 h h1 h2
        · by_cases h3 : p.frm = s.self
          · exact rtake_no3 h h1 (by omega) h3
          · have h4 : p.kind = 3 ∧ p.of = s.self := by
              unfold VS.refuses at hr
              simp only [h1, Bool.not_true, Bool.false_or, Bool.or_eq_true, decide_eq_true_eq] at hr
              rcases hr with (hr | hr) | hr
              · exact absurd hr h2
              · exact absurd hr h3
              · exact hr
            exact rtake_no4 h h1 (by omega) h3 h4.1 h4.2
    exact key.mono fun e w' ⟨he, hn, hb⟩ => ⟨_, _, _, he, RowAt.nil _ _, hn, hb⟩
  | false =>
    obtain ⟨h1, h2, h3, h4⟩ := VS.taken hr
    obtain ⟨f1, f2, f3⟩ := PK.right_facts h1
    have hw := PK.who_lt h1
    by_cases hk : p.kind = 3
    · have hD : s.takeD p = s.took p p.who := by unfold VS.takeD; rw [if_neg (by rw [hr]; decide), if_pos hk]
      have hL : s.takeL p = [] := by unfold VS.takeL; rw [if_neg (by rw [hr]; decide), if_pos hk]
      have ho : p.of = p.who := by
        unfold PK.who
        rw [if_pos hk]
        have := f3 hk
        omega
      rw [hD, hL]
      exact (rtake_upd h hok hM hM2 hp h1 h2 f2 h3 hk p.who hw ho (fun e => h4 ⟨hk, e⟩)).mono fun e w' ⟨g', cap', he, hn, hb⟩ => ⟨g', cap', _, he, RowAt.nil _ _, hn, hb⟩
    · have hD : s.takeD p = (s.took p p.who).raised p p.who := by unfold VS.takeD; rw [if_neg (by rw [hr]; decide), if_neg hk]
      have hL : s.takeL p = ((s.took p p.who).raised p p.who).pong p ++ ((s.took p p.who).raised p p.who).upd p := by unfold VS.takeL; rw [if_neg (by rw [hr]; decide), if_neg hk]
      have ho : p.frm = p.who := by
        unfold PK.who
        rw [if_neg hk]
        omega
      rw [hD, hL]
      exact rtake_non h hok hM hM2 hp h1 h2 f2 h3 hk p.who hw ho

theorem RN.neBox {u : World} {B g cap b : Nat} {N : NS} {x y z : Value} (h : RN u B g cap N) (hb : Box u b x y z) : g ≠ b := by
  intro e
  subst e
  rcases h.2 with ⟨h1, _⟩ | ⟨g', cap', cur, e, _, hh, _⟩
  · cases h1
  · have e2 : g' = g := by
      simp only [Value.slice.injEq, Option.some.injEq, Addr.mk.injEq] at e
      exact e.1.1.symm
    subst e2
    have := hh.symm.trans hb.heap
    simp at this

theorem takeD_self (s : VS) (p : PK) : (s.takeD p).self = s.self := by
  unfold VS.takeD
  split
  · rfl
  · split
    · exact took_self _ _ _
    · rw [raised_self]; exact took_self _ _ _
theorem winD_self (s : VS) (k least : Int) : (s.winD k least).self = s.self := by unfold VS.winD; split <;> rfl
theorem giveD_self (s : VS) (k n : Int) : (s.giveD k n).self = s.self := by
  unfold VS.giveD
  split
  · split <;> rfl
  · rfl
theorem giveD_cur (s : VS) (k n : Int) : (s.giveD k n).cur = s.cur := by
  unfold VS.giveD
  split
  · split <;> rfl
  · rfl
theorem doesD_self (s : VS) (o : OPV) : (s.doesD o).self = s.self := by
  unfold VS.doesD
  split
  · exact takeD_self _ _
  · split
    · exact winD_self _ _ _
    · split
      · exact giveD_self _ _ _
      · rfl

set_option maxRecDepth 100000 in
set_option maxHeartbeats 1600000 in
theorem rdo_any {w : World} {B g cap : Nat} {s : VS} (h : RN w B g cap (NS.of s)) {M : Int} (hok : s.Ok M) (hM : 4611686018427387904 ≤ M) (hM2 : M ≤ 9223372036854775806) {o : OPV} (ho : o.Ok) :
    Calls Try.prog 19 #[refVal s.self g cap s.cur, o.val] w fun e w' => ∃ g' cap' v, e = .returned (.tuple #[refVal s.self g' cap' (s.doesD o).cur, v, .int .i64 (VS.doesE o)]) ∧ RowAt w' w.heap.size v (s.doesL o) ∧ RN w' B g' cap' (NS.of (s.doesD o)) ∧ Below w.heap.size w w' := by
  have hgl := h.lt
  have HTk := Lib.hid fun (u : World) (hu : RN u B g cap (NS.of s)) => rtake_any hu hok hM hM2 ho.p
  have HWn := Lib.hid fun (u : World) (hu : RN u B g cap (NS.of s)) => rwin_any hu hok hM hM2 o.slot o.least ho.least
  have HGv := Lib.hid fun (u : World) (hu : RN u B g cap (NS.of s)) => rgive_any hu o.slot o.node
  unfold refVal at *
  unfold PK.val at HTk
  generalize s.self = self at *
  obtain ⟨cur, hcur⟩ : ∃ c, c = s.cur := ⟨_, rfl⟩
  have HCe := Lib.hid hcur
  rw [← hcur] at HTk HWn HGv ⊢
  have hb3 : Below w.heap.size w (((w.alloc (.cells #[.int .i64 (self : Int), .slice (some ⟨g, 0, none⟩) 64 cap, .int .u64 cur] 33)).alloc (.cells o.cells.toArray 38)).alloc (.cells #[.int .i64 0, .slice none 0 0, .int .u64 0] 33)) := below3 _ _ _ _
  have hop : OpAt (((w.alloc (.cells #[.int .i64 (self : Int), .slice (some ⟨g, 0, none⟩) 64 cap, .int .u64 cur] 33)).alloc (.cells o.cells.toArray 38)).alloc (.cells #[.int .i64 0, .slice none 0 0, .int .u64 0] 33)) (w.heap.size + 1) o := by
    unfold OpAt
    rw [Below.heap_alloc _ _ _ (by simp)]
    have := heap_alloc_new (w.alloc (.cells #[.int .i64 (self : Int), .slice (some ⟨g, 0, none⟩) 64 cap, .int .u64 cur] 33)) (.cells o.cells.toArray 38)
    simpa using this
  have hbx := box_a w (.int .i64 (self : Int)) (.slice (some ⟨g, 0, none⟩) 64 cap) (.int .u64 cur) (.cells o.cells.toArray 38) (.cells #[.int .i64 0, .slice none 0 0, .int .u64 0] 33)
  have hby : Box (((w.alloc (.cells #[.int .i64 (self : Int), .slice (some ⟨g, 0, none⟩) 64 cap, .int .u64 cur] 33)).alloc (.cells o.cells.toArray 38)).alloc (.cells #[.int .i64 0, .slice none 0 0, .int .u64 0] 33)) (w.heap.size + 1 + 1) (.int .i64 0) (.slice none 0 0) (.int .u64 0) := ⟨by
    have := heap_alloc_new ((w.alloc (.cells #[.int .i64 (self : Int), .slice (some ⟨g, 0, none⟩) 64 cap, .int .u64 cur] 33)).alloc (.cells o.cells.toArray 38)) (.cells #[.int .i64 0, .slice none 0 0, .int .u64 0] 33)
    simpa using this⟩
  have hrn := h.belowN hb3 hgl.2
  unfold OPV.val
  generalize o.cells.toArray = OC at *
  generalize hw2 : ((w.alloc (.cells #[.int .i64 (self : Int), .slice (some ⟨g, 0, none⟩) 64 cap, .int .u64 cur] 33)).alloc (.cells OC 38)).alloc (.cells #[.int .i64 0, .slice none 0 0, .int .u64 0] 33) = w2 at *
  have HW2 := Lib.hid hw2
  have d0 := hop.kind
  have d1 := hop.slot
  have d2 := hop.node
  have d3 := hop.least
  have HRg := Lib.hid hop.pkt
  have HS29 : Hid ((Try.prog.info? 29).map (·.size) = some o.p.cells.length) := by rw [PK.cells_len]; exact size29
  have HBel := Lib.hid hb3
  have HRn := Lib.hid hrn
  have HBy := Lib.hid hby
  have hyl := hby.lt
  have a0 := hbx.cell0
  have a1 := hbx.cell1
  have a2 := hbx.cell2
  have b0 := hby.cell0
  have b1 := hby.cell1
  have b2 := hby.cell2
  have zb0 := hby.free 0
  have zb1 := hby.free 1
  have zb2 := hby.free 2
  clear hw2 hb3 hop hbx hby hrn h hok ho hcur
  by_cases hk0 : o.kind = 0
  · have HD : Hid (s.doesD o = s.takeD o.p) := by unfold VS.doesD; rw [if_pos hk0]; exact rfl
    have HL : Hid (s.doesL o = s.takeL o.p) := by unfold VS.doesL; rw [if_pos hk0]; exact rfl
    have HE : Hid (VS.doesE o = 0) := by unfold VS.doesE; rw [if_pos hk0]; exact rfl
    rw [hk0] at d0
    clear hk0 HWn HGv
    go_enter Try.func19, Try.ntmps19
    go_upto_region 1 with fail
    rw [HW2.out]
    go_wp2_with (with_reducible refine wpList_load_mid rfl 29 (.tmp 19) rfl (w.heap.size + 1) 4 rfl o.p.cells _ HRg.out Try.underlying29 rfl HS29.out ?_)
    refine (HTk.out _ HRn.out).mono ?_
    rintro e w3 ⟨g', cap', v, rfl, hrow, hr3, hb3⟩
    have HV3 := Lib.hid hrow
    clear hrow
    have hb3' := hb3
    have hby3 := HBy.out.below hb3 hyl
    have HBy3 := Lib.hid hby3
    have HR3 := Lib.hid hr3
    have HB3 := Lib.hid (HBel.out.trans (hb3.mono HBel.out.size))
    have hw3s : w2.heap.size ≤ w3.heap.size := hb3.size
    clear a0 a1 a2 b0 b1 b2 zb0 zb1 zb2 hr3 hb3 hb3' d0 d1 d2 d3
    have b0 := hby3.cell0
    have b1 := hby3.cell1
    have b2 := hby3.cell2
    have zb0 := hby3.free 0
    have zb1 := hby3.free 1
    have zb2 := hby3.free 2
    clear hby3
    go_upto_region 4 with fail
    have hbA : Below w3.heap.size w3 (w3.alloc (.cells #[.int .i64 (self : Int), .slice (some ⟨g', 0, none⟩) 64 cap', .int .u64 (s.takeD o.p).cur] 33)) := (Below.refl _ _).alloc (Nat.le_refl _) _
    have hby4 := HBy3.out.below hbA HBy3.out.lt
    have hr4 := HR3.out.below hbA
    have hbt : Box (w3.alloc (.cells #[.int .i64 (self : Int), .slice (some ⟨g', 0, none⟩) 64 cap', .int .u64 (s.takeD o.p).cur] 33)) w3.heap.size _ _ _ := box1 w3 _ _ _
    generalize hw4 : w3.alloc (.cells #[.int .i64 (self : Int), .slice (some ⟨g', 0, none⟩) 64 cap', .int .u64 (s.takeD o.p).cur] 33) = w4 at *
    clear b0 b1 b2 zb0 zb1 zb2 hw4
    have b0 := hby4.cell0
    have b1 := hby4.cell1
    have b2 := hby4.cell2
    have zb0 := hby4.free 0
    have zb1 := hby4.free 1
    have zb2 := hby4.free 2
    have t0 := hbt.cell0
    have t1 := hbt.cell1
    have t2 := hbt.cell2
    have HBA := Lib.hid hbA
    have HY4 := Lib.hid hby4
    have HR4 := Lib.hid hr4
    clear hbA hby4 hr4 hbt
    go_wp2
    refine bodyPost_ret (results_box3 (p := 4) (q := 5) (r := 6) rfl (HY4.out.set _ _ _) _ rfl) rfl ?_
    have hb4 := HB3.out.trans (HBA.out.mono HB3.out.size)
    have hv4 := HV3.out.below HBA.out
    refine ⟨g', cap', v, by rw [HD.out, HE.out]; rfl, ?_, ?_, (Box.onlySet _ (w.heap.size + 1 + 1) _ _ _).new hb4 (by omega) hb4.size⟩
    · rw [HL.out]
      exact (hv4.only (Box.onlySet _ _ _ _ _) (by omega)).mono (by omega)
    · rw [HD.out]
      exact HR4.out.only (Box.onlySet _ _ _ _ _) (HR4.out.neBox HY4.out)
  · have hk0b : (o.kind == 0) = false := by rw [beq_eq_false_iff_ne]; exact hk0
    have HL : Hid (s.doesL o = []) := by unfold VS.doesL; rw [if_neg hk0]; exact rfl
    by_cases hk1 : o.kind = 1
    · have HD : Hid (s.doesD o = s.winD o.slot o.least) := by unfold VS.doesD; rw [if_neg hk0, if_pos hk1]; exact rfl
      have HE : Hid (VS.doesE o = winE o.slot o.least) := by unfold VS.doesE; rw [if_neg hk0, if_pos hk1]; exact rfl
      rw [hk1] at d0
      clear hk0 hk1 hk0b HTk HGv
      go_enter Try.func19, Try.ntmps19
      go_upto_region 1 with fail
      rw [HW2.out]
      go_wp2_with fail
      refine (HWn.out _ HRn.out).mono ?_
      rintro e w3 ⟨g', cap', rfl, hr3, hb3⟩
      have hb3' := hb3
      have hby3 := HBy.out.below hb3 hyl
      have HBy3 := Lib.hid hby3
      have HR3 := Lib.hid hr3
      have HB3 := Lib.hid (HBel.out.trans (hb3.mono HBel.out.size))
      have hw3s : w2.heap.size ≤ w3.heap.size := hb3.size
      clear a0 a1 a2 b0 b1 b2 zb0 zb1 zb2 hr3 hb3 hb3' d0 d1 d2 d3
      have b0 := hby3.cell0
      have b1 := hby3.cell1
      have b2 := hby3.cell2
      have zb0 := hby3.free 0
      have zb1 := hby3.free 1
      have zb2 := hby3.free 2
      clear hby3
      go_upto_region 7 with fail
      have hbA : Below w3.heap.size w3 (w3.alloc (.cells #[.int .i64 (self : Int), .slice (some ⟨g', 0, none⟩) 64 cap', .int .u64 (s.winD o.slot o.least).cur] 33)) := (Below.refl _ _).alloc (Nat.le_refl _) _
      have hby4 := HBy3.out.below hbA HBy3.out.lt
      have hr4 := HR3.out.below hbA
      have hbt : Box (w3.alloc (.cells #[.int .i64 (self : Int), .slice (some ⟨g', 0, none⟩) 64 cap', .int .u64 (s.winD o.slot o.least).cur] 33)) w3.heap.size _ _ _ := box1 w3 _ _ _
      generalize hw4 : w3.alloc (.cells #[.int .i64 (self : Int), .slice (some ⟨g', 0, none⟩) 64 cap', .int .u64 (s.winD o.slot o.least).cur] 33) = w4 at *
      clear b0 b1 b2 zb0 zb1 zb2 hw4
      have b0 := hby4.cell0
      have b1 := hby4.cell1
      have b2 := hby4.cell2
      have zb0 := hby4.free 0
      have zb1 := hby4.free 1
      have zb2 := hby4.free 2
      have t0 := hbt.cell0
      have t1 := hbt.cell1
      have t2 := hbt.cell2
      have HBA := Lib.hid hbA
      have HY4 := Lib.hid hby4
      have HR4 := Lib.hid hr4
      clear hbA hby4 hr4 hbt
      go_wp2
      refine bodyPost_ret (results_box3 (p := 4) (q := 5) (r := 6) rfl (HY4.out.set _ _ _) _ rfl) rfl ?_
      have hb4 := HB3.out.trans (HBA.out.mono HB3.out.size)
      refine ⟨g', cap', _, by rw [HD.out, HE.out]; rfl, by rw [HL.out]; exact RowAt.nil _ _, ?_, (Box.onlySet _ (w.heap.size + 1 + 1) _ _ _).new hb4 (by omega) hb4.size⟩
      rw [HD.out]
      exact HR4.out.only (Box.onlySet _ _ _ _ _) (HR4.out.neBox HY4.out)
    · have hk1b : (o.kind == 1) = false := by rw [beq_eq_false_iff_ne]; exact hk1
      by_cases hk2 : o.kind = 2
      · have HD : Hid (s.doesD o = s.giveD o.slot o.node) := by unfold VS.doesD; rw [if_neg hk0, if_neg hk1, if_pos hk2]; exact rfl
        have HE : Hid (VS.doesE o = giveE o.slot o.node) := by unfold VS.doesE; rw [if_neg hk0, if_neg hk1, if_pos hk2]; exact rfl
        have HCg : Hid ((s.giveD o.slot o.node).cur = cur) := by rw [giveD_cur, HCe.out]; exact rfl
        rw [hk2] at d0
        clear hk0 hk1 hk2 hk0b hk1b HTk HWn
        go_enter Try.func19, Try.ntmps19
        go_upto_region 1 with fail
        rw [HW2.out]
        go_wp2_with fail
        refine (HGv.out _ HRn.out).mono ?_
        rintro e w3 ⟨g', cap', rfl, hr3, hb3⟩
        have hb3' := hb3
        have hby3 := HBy.out.below hb3 hyl
        have HBy3 := Lib.hid hby3
        have HR3 := Lib.hid hr3
        have HB3 := Lib.hid (HBel.out.trans (hb3.mono HBel.out.size))
        have hw3s : w2.heap.size ≤ w3.heap.size := hb3.size
        clear a0 a1 a2 b0 b1 b2 zb0 zb1 zb2 hr3 hb3 hb3' d0 d1 d2 d3
        have b0 := hby3.cell0
        have b1 := hby3.cell1
        have b2 := hby3.cell2
        have zb0 := hby3.free 0
        have zb1 := hby3.free 1
        have zb2 := hby3.free 2
        clear hby3
        go_upto_region 10 with fail
        have hbA : Below w3.heap.size w3 (w3.alloc (.cells #[.int .i64 (self : Int), .slice (some ⟨g', 0, none⟩) 64 cap', .int .u64 cur] 33)) := (Below.refl _ _).alloc (Nat.le_refl _) _
        have hby4 := HBy3.out.below hbA HBy3.out.lt
        have hr4 := HR3.out.below hbA
        have hbt : Box (w3.alloc (.cells #[.int .i64 (self : Int), .slice (some ⟨g', 0, none⟩) 64 cap', .int .u64 cur] 33)) w3.heap.size _ _ _ := box1 w3 _ _ _
        generalize hw4 : w3.alloc (.cells #[.int .i64 (self : Int), .slice (some ⟨g', 0, none⟩) 64 cap', .int .u64 cur] 33) = w4 at *
        clear b0 b1 b2 zb0 zb1 zb2 hw4
        have b0 := hby4.cell0
        have b1 := hby4.cell1
        have b2 := hby4.cell2
        have zb0 := hby4.free 0
        have zb1 := hby4.free 1
        have zb2 := hby4.free 2
        have t0 := hbt.cell0
        have t1 := hbt.cell1
        have t2 := hbt.cell2
        have HBA := Lib.hid hbA
        have HY4 := Lib.hid hby4
        have HR4 := Lib.hid hr4
        clear hbA hby4 hr4 hbt
        go_wp2
        refine bodyPost_ret (results_box3 (p := 4) (q := 5) (r := 6) rfl (HY4.out.set _ _ _) _ rfl) rfl ?_
        have hb4 := HB3.out.trans (HBA.out.mono HB3.out.size)
        refine ⟨g', cap', _, by rw [HD.out, HE.out, HCg.out]; rfl, by rw [HL.out]; exact RowAt.nil _ _, ?_, (Box.onlySet _ (w.heap.size + 1 + 1) _ _ _).new hb4 (by omega) hb4.size⟩
        rw [HD.out]
        exact HR4.out.only (Box.onlySet _ _ _ _ _) (HR4.out.neBox HY4.out)
      · have hk2b : (o.kind == 2) = false := by rw [beq_eq_false_iff_ne]; exact hk2
        have HD : Hid (s.doesD o = s) := by unfold VS.doesD; rw [if_neg hk0, if_neg hk1, if_neg hk2]; exact rfl
        have HE : Hid (VS.doesE o = 0) := by unfold VS.doesE; rw [if_neg hk0, if_neg hk1, if_neg hk2]; exact rfl
        clear hk0 hk1 hk2 HTk HWn HGv
        go_enter Try.func19, Try.ntmps19
        go_upto_region 1 with fail
        rw [HW2.out]
        go_wp2
        refine bodyPost_ret (results_box3 (p := 4) (q := 5) (r := 6) rfl (HBy.out.set _ _ _) _ rfl) rfl ?_
        refine ⟨g, cap, _, by rw [HD.out, HE.out, ← HCe.out]; rfl, by rw [HL.out]; exact RowAt.nil _ _, ?_, (Box.onlySet _ (w.heap.size + 1 + 1) _ _ _).new HBel.out (by omega) HBel.out.size⟩
        rw [HD.out]
        exact HRn.out.only (Box.onlySet _ _ _ _ _) (by omega)
end Go.Proofs.Ytlccbgjlinlioaa
