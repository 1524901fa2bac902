/- The walk of Take, first part: what is refused. -/
import Derived.Test.YtlccbgjlinlioaaBeat
import Derived.Test.YtlccbgjlinlioaaRight
import Derived.RegionTactic
namespace Go.Proofs.Ytlccbgjlinlioaa
open Go.RowKit

/-- where Take's walk stands -/
structure TakeW (w : World) (g : Nat) (s : VS) (p : PK) (u : World) : Prop where
  view : ViewAt u g s
  pkt : PktAt u w.heap.size p
  only : Only w u g
  size : w.heap.size < u.heap.size

theorem TakeW.below {w : World} {g : Nat} {s : VS} {p : PK} {u u' : World} (h : TakeW w g s p u) (hb : Below u.heap.size u u') : TakeW w g s p u' :=
  ⟨h.view.below hb, (hb.block _ h.size).trans h.pkt, h.only.trans (below_only hb g), Nat.lt_of_lt_of_le h.size hb.size⟩
theorem TakeW.drew {w : World} {g : Nat} {s : VS} {p : PK} {u : World} (h : TakeW w g s p u) : TakeW w g s p u.drew := ⟨h.view.drew, h.pkt, h.only.drew, h.size⟩
theorem TakeW.on {w : World} {g : Nat} {s s' : VS} {p : PK} {u u' : World} (hg : g < w.heap.size) (h : TakeW w g s p u) (hv : ViewAt u' g s') (ho : Only u u' g) : TakeW w g s' p u' :=
  ⟨hv, (ho.block _ h.size (by simp; omega)).trans h.pkt, h.only.trans ho, Nat.lt_of_lt_of_le h.size ho.size⟩

theorem wp_region_class {P : Program} {C : World → Prop} {id : Nat} {Q : Exit → Act → World → Prop} {a : Act} {w : World} {l : List Oper} (hm : P.follows .mixedOrders = true) (hB : Region.lexB .any l.toArray = true) (hC : C w.drew)
    (h : wpQuiet P l.toArray C (fun a' => ∀ w', C w' → Q .normal a' w') l a) : (Code.region id l.toArray true).wp P Q a w :=
  wp_region_quiet (C := C) hm hB hC (by simpa using h)

theorem class_call {P : Program} {C : World → Prop} {f : FuncId} {args : Array Value} {w : World} {v : Value} {R : World → Prop} (h : Calls P f args w fun e w' => e = .returned v ∧ R w') (hR : ∀ w', R w' → C w') :
    Calls P f args w fun e w'' => e = .returned v ∧ C w'' := h.mono fun _ _ ⟨he, hr⟩ => ⟨he, hR _ hr⟩

theorem quiet_load_row {P : Program} {C : World → Prop} {o : Oper} {a : Act} {K : Act → Prop} (ty : TypeId) (x : Operand) (ho : o.op = .load ty x)
    (g : Nat) (hx : a.eval x = .pointer (some ⟨g, 0, none⟩)) (t : TypeId) (cs : Array Value) (fr : Nat × Nat) (d : TypeDesc) (hg : ∀ w, C w → w.heap[g]? = some (.cells cs t fr))
    (hu : P.underlying ty = some d) (hd : (match d with | .struct _ | .array _ _ => true | _ => false) = true) (hi : (P.info? ty).map (·.size) = some cs.size)
    (hk : K (a.put o.dst (.agg cs))) : o.quiet P a C K := by
  refine ⟨.agg cs, fun w hw => ?_, hk⟩
  unfold Oper.quietAt execOp
  simp only [ho, hx, Instr.loadAt, Instr.sureAddr, Sem.run_bind, Sem.run_pure, Result.andThen_ok, run_loadVar_row w g t ty cs fr d (hg w hw) hu hd hi]
  exact ⟨rfl, rfl⟩

theorem quiet_load_cell {P : Program} {C : World → Prop} {o : Oper} {a : Act} {K : Act → Prop} (ty : TypeId) (x : Operand) (ho : o.op = .load ty x)
    (ad : Addr) (hx : a.eval x = .pointer (some ad)) (v : Value) (hg : ∀ w, C w → w.cell? ad = some v) (hd : ∀ w, (isAgg ty).run P w = .ok false w)
    (hk : K (a.put o.dst v)) : o.quiet P a C K := by
  refine ⟨v, fun w hw => ?_, hk⟩
  have hl : (loadVar ty ad).run P w = .ok v w := by simp [loadVar, hd, hg w hw, go_sem]
  unfold Oper.quietAt execOp
  simp only [ho, hx, Instr.loadAt, Instr.sureAddr, Sem.run_bind, Sem.run_pure, Result.andThen_ok, hl]
  exact ⟨rfl, rfl⟩
theorem isAgg3 (w : World) : (isAgg 3).run Try.prog w = .ok false w := by kernel_rfl
theorem isAgg22 (w : World) : (isAgg 22).run Try.prog w = .ok false w := by kernel_rfl

set_option maxRecDepth 100000 in
set_option maxHeartbeats 1600000 in
theorem take_no1 {w : World} {g : Nat} {s : VS} (h : ViewAt w g s) {p : PK} (hr : p.right = false) :
    Calls Try.prog 13 #[.pointer (some ⟨g, 0, none⟩), p.val] w fun e w' => e = .returned (.slice none 0 0) ∧ TakeW w g s p w' := by
  have HRt := Lib.hid fun (u : World) => right_any p u
  rw [hr] at HRt
  have HT : Hid (TakeW w g s p (w.alloc (.cells p.cells.toArray 29))) := ⟨h.below ((Below.refl _ _).alloc (Nat.le_refl _) _), heap_alloc_new w _, below_only ((Below.refl _ _).alloc (Nat.le_refl _) _) g, by simp⟩
  unfold PK.val at *
  have HPS : Hid (p.cells.toArray.size = 261) := by rw [List.size_toArray]; exact p.cells_len
  have HS29 : Hid ((Try.prog.info? 29).map (·.size) = some p.cells.toArray.size) := by rw [HPS.out]; exact size29
  obtain ⟨C, hC⟩ : ∃ C : World → Prop, C = fun u => TakeW w g s p u := ⟨_, rfl⟩
  have HCi : Hid (∀ u, C u → TakeW w g s p u) := fun u h => by rw [hC] at h; exact h
  have HCo : Hid (∀ u, TakeW w g s p u → C u) := fun u h => by rw [hC]; exact h
  have HC0 : Hid (C (w.alloc (.cells p.cells.toArray 29)).drew) := HCo.out _ HT.out.drew
  have KB : Hid (∀ u, C u → u.heap[w.heap.size]? = some (.cells p.cells.toArray 29 (0, 0))) := fun u hu => (HCi.out u hu).pkt
  have K1 : Hid (∀ u, C u → u.cell? ⟨w.heap.size, 1, none⟩ = some (.int .i64 p.frm)) := fun u hu => (HCi.out u hu).pkt.frm
  have K2 : Hid (∀ u, C u → u.cell? ⟨w.heap.size, 2, none⟩ = some (.int .i64 p.of)) := fun u hu => (HCi.out u hu).pkt.of
  have K4 : Hid (∀ u, C u → u.cell? ⟨w.heap.size, 4, none⟩ = some (.int .u64 p.cur)) := fun u hu => (HCi.out u hu).pkt.cur
  have KG : Hid (∀ u, C u → u.cell? ⟨g, 0, none⟩ = some (.int .i64 s.self)) := fun u hu => (HCi.out u hu).view.self
  have KR : Hid (∀ u, C u → Calls Try.prog 31 #[.agg p.cells.toArray] u fun e u' => e = .returned (.bool false) ∧ C u') := fun u hu => class_call (HRt.out u) fun u' hb => HCo.out _ ((HCi.out _ hu).below hb)
  have d0 := HT.out.pkt.kind
  generalize p.cells.toArray = PC at *
  generalize p.kind = kind at *
  generalize p.cur = cur at *
  clear hC h hr
  go_enter Try.func13, Try.ntmps13
  go_wp2_with fail
  refine wp_region_class (C := C) (by kernel_rfl) (by kernel_rfl) HC0.out ?_
  repeat (first
    | go_big_quiet_skip
    | (go_big_quiet_want; refine quiet_load_row 29 (.tmp 3) rfl _ rfl 29 _ _ _ KB.out Try.underlying29 rfl HS29.out ?_; simp only [Act.put, List.setIfInBounds_toArray, List.set_cons_succ, List.set_cons_zero]; go_big_quiet_on)
    | (go_big_quiet_want; refine quiet_load_cell 22 (.tmp 16) rfl _ rfl _ K4.out isAgg22 ?_; simp only [Act.put, List.setIfInBounds_toArray, List.set_cons_succ, List.set_cons_zero]; go_big_quiet_on)
    | (go_big_quiet_want; refine quiet_load_cell 3 (.tmp 21) rfl _ rfl _ K1.out isAgg3 ?_; simp only [Act.put, List.setIfInBounds_toArray, List.set_cons_succ, List.set_cons_zero]; go_big_quiet_on)
    | (go_big_quiet_want; refine quiet_load_cell 3 (.tmp 25) rfl _ rfl _ KG.out isAgg3 ?_; simp only [Act.put, List.setIfInBounds_toArray, List.set_cons_succ, List.set_cons_zero]; go_big_quiet_on)
    | (go_big_quiet_want; refine quiet_load_cell 3 (.tmp 32) rfl _ rfl _ K2.out isAgg3 ?_; simp only [Act.put, List.setIfInBounds_toArray, List.set_cons_succ, List.set_cons_zero]; go_big_quiet_on)
    | (go_big_quiet_want; refine quiet_load_cell 3 (.tmp 36) rfl _ rfl _ KG.out isAgg3 ?_; simp only [Act.put, List.setIfInBounds_toArray, List.set_cons_succ, List.set_cons_zero]; go_big_quiet_on)
    | (go_big_quiet_want; go_big_quiet_op; first
        | go_big_quiet_on
        | (refine ⟨_, fun _ _ => rfl, ?_⟩; go_big_quiet_on)
        | (refine ⟨_, KR.out, ?_⟩; go_big_quiet_on)))
  refine wpQuiet_nil ?_
  intro wz hwz
  have HTz := Lib.hid (HCi.out _ hwz)
  clear hwz
  go_wp2
  go_ret
  exact ⟨rfl, HTz.out⟩

set_option maxRecDepth 100000 in
set_option maxHeartbeats 1600000 in
theorem take_no2 {w : World} {g : Nat} {s : VS} (h : ViewAt w g s) {p : PK} (hr : p.right = true) (hc : 4611686018427387904 < p.cur) :
    Calls Try.prog 13 #[.pointer (some ⟨g, 0, none⟩), p.val] w fun e w' => e = .returned (.slice none 0 0) ∧ TakeW w g s p w' := by
  have HRt := Lib.hid fun (u : World) => right_any p u
  rw [hr] at HRt
  have HT : Hid (TakeW w g s p (w.alloc (.cells p.cells.toArray 29))) := ⟨h.below ((Below.refl _ _).alloc (Nat.le_refl _) _), heap_alloc_new w _, below_only ((Below.refl _ _).alloc (Nat.le_refl _) _) g, by simp⟩
  unfold PK.val at *
  have HPS : Hid (p.cells.toArray.size = 261) := by rw [List.size_toArray]; exact p.cells_len
  have HS29 : Hid ((Try.prog.info? 29).map (·.size) = some p.cells.toArray.size) := by rw [HPS.out]; exact size29
  obtain ⟨C, hC⟩ : ∃ C : World → Prop, C = fun u => TakeW w g s p u := ⟨_, rfl⟩
  have HCi : Hid (∀ u, C u → TakeW w g s p u) := fun u h => by rw [hC] at h; exact h
  have HCo : Hid (∀ u, TakeW w g s p u → C u) := fun u h => by rw [hC]; exact h
  have HC0 : Hid (C (w.alloc (.cells p.cells.toArray 29)).drew) := HCo.out _ HT.out.drew
  have KB : Hid (∀ u, C u → u.heap[w.heap.size]? = some (.cells p.cells.toArray 29 (0, 0))) := fun u hu => (HCi.out u hu).pkt
  have K1 : Hid (∀ u, C u → u.cell? ⟨w.heap.size, 1, none⟩ = some (.int .i64 p.frm)) := fun u hu => (HCi.out u hu).pkt.frm
  have K2 : Hid (∀ u, C u → u.cell? ⟨w.heap.size, 2, none⟩ = some (.int .i64 p.of)) := fun u hu => (HCi.out u hu).pkt.of
  have K4 : Hid (∀ u, C u → u.cell? ⟨w.heap.size, 4, none⟩ = some (.int .u64 p.cur)) := fun u hu => (HCi.out u hu).pkt.cur
  have KG : Hid (∀ u, C u → u.cell? ⟨g, 0, none⟩ = some (.int .i64 s.self)) := fun u hu => (HCi.out u hu).view.self
  have KR : Hid (∀ u, C u → Calls Try.prog 31 #[.agg p.cells.toArray] u fun e u' => e = .returned (.bool true) ∧ C u') := fun u hu => class_call (HRt.out u) fun u' hb => HCo.out _ ((HCi.out _ hu).below hb)
  have d0 := HT.out.pkt.kind
  generalize p.cells.toArray = PC at *
  generalize p.kind = kind at *
  generalize p.cur = cur at *
  clear hC h hr
  go_enter Try.func13, Try.ntmps13
  go_wp2_with fail
  refine wp_region_class (C := C) (by kernel_rfl) (by kernel_rfl) HC0.out ?_
  repeat (first
    | go_big_quiet_skip
    | (go_big_quiet_want; refine quiet_load_row 29 (.tmp 3) rfl _ rfl 29 _ _ _ KB.out Try.underlying29 rfl HS29.out ?_; simp only [Act.put, List.setIfInBounds_toArray, List.set_cons_succ, List.set_cons_zero]; go_big_quiet_on)
    | (go_big_quiet_want; refine quiet_load_cell 22 (.tmp 16) rfl _ rfl _ K4.out isAgg22 ?_; simp only [Act.put, List.setIfInBounds_toArray, List.set_cons_succ, List.set_cons_zero]; go_big_quiet_on)
    | (go_big_quiet_want; refine quiet_load_cell 3 (.tmp 21) rfl _ rfl _ K1.out isAgg3 ?_; simp only [Act.put, List.setIfInBounds_toArray, List.set_cons_succ, List.set_cons_zero]; go_big_quiet_on)
    | (go_big_quiet_want; refine quiet_load_cell 3 (.tmp 25) rfl _ rfl _ KG.out isAgg3 ?_; simp only [Act.put, List.setIfInBounds_toArray, List.set_cons_succ, List.set_cons_zero]; go_big_quiet_on)
    | (go_big_quiet_want; refine quiet_load_cell 3 (.tmp 32) rfl _ rfl _ K2.out isAgg3 ?_; simp only [Act.put, List.setIfInBounds_toArray, List.set_cons_succ, List.set_cons_zero]; go_big_quiet_on)
    | (go_big_quiet_want; refine quiet_load_cell 3 (.tmp 36) rfl _ rfl _ KG.out isAgg3 ?_; simp only [Act.put, List.setIfInBounds_toArray, List.set_cons_succ, List.set_cons_zero]; go_big_quiet_on)
    | (go_big_quiet_want; go_big_quiet_op; first
        | go_big_quiet_on
        | (refine ⟨_, fun _ _ => rfl, ?_⟩; go_big_quiet_on)
        | (refine ⟨_, KR.out, ?_⟩; go_big_quiet_on)))
  refine wpQuiet_nil ?_
  intro wz hwz
  have HTz := Lib.hid (HCi.out _ hwz)
  clear hwz
  go_wp2
  go_ret
  exact ⟨rfl, HTz.out⟩

set_option maxRecDepth 100000 in
set_option maxHeartbeats 1600000 in
theorem take_no3 {w : World} {g : Nat} {s : VS} (h : ViewAt w g s) {p : PK} (hr : p.right = true) (hc : p.cur ≤ 4611686018427387904) (hf : p.frm = s.self) :
    Calls Try.prog 13 #[.pointer (some ⟨g, 0, none⟩), p.val] w fun e w' => e = .returned (.slice none 0 0) ∧ TakeW w g s p w' := by
  have HRt := Lib.hid fun (u : World) => right_any p u
  rw [hr] at HRt
  have HT : Hid (TakeW w g s p (w.alloc (.cells p.cells.toArray 29))) := ⟨h.below ((Below.refl _ _).alloc (Nat.le_refl _) _), heap_alloc_new w _, below_only ((Below.refl _ _).alloc (Nat.le_refl _) _) g, by simp⟩
  unfold PK.val at *
  have HPS : Hid (p.cells.toArray.size = 261) := by rw [List.size_toArray]; exact p.cells_len
  have HS29 : Hid ((Try.prog.info? 29).map (·.size) = some p.cells.toArray.size) := by rw [HPS.out]; exact size29
  obtain ⟨C, hC⟩ : ∃ C : World → Prop, C = fun u => TakeW w g s p u := ⟨_, rfl⟩
  have HCi : Hid (∀ u, C u → TakeW w g s p u) := fun u h => by rw [hC] at h; exact h
  have HCo : Hid (∀ u, TakeW w g s p u → C u) := fun u h => by rw [hC]; exact h
  have HC0 : Hid (C (w.alloc (.cells p.cells.toArray 29)).drew) := HCo.out _ HT.out.drew
  have KB : Hid (∀ u, C u → u.heap[w.heap.size]? = some (.cells p.cells.toArray 29 (0, 0))) := fun u hu => (HCi.out u hu).pkt
  have K1 : Hid (∀ u, C u → u.cell? ⟨w.heap.size, 1, none⟩ = some (.int .i64 p.frm)) := fun u hu => (HCi.out u hu).pkt.frm
  have K2 : Hid (∀ u, C u → u.cell? ⟨w.heap.size, 2, none⟩ = some (.int .i64 p.of)) := fun u hu => (HCi.out u hu).pkt.of
  have K4 : Hid (∀ u, C u → u.cell? ⟨w.heap.size, 4, none⟩ = some (.int .u64 p.cur)) := fun u hu => (HCi.out u hu).pkt.cur
  have KG : Hid (∀ u, C u → u.cell? ⟨g, 0, none⟩ = some (.int .i64 s.self)) := fun u hu => (HCi.out u hu).view.self
  have KR : Hid (∀ u, C u → Calls Try.prog 31 #[.agg p.cells.toArray] u fun e u' => e = .returned (.bool true) ∧ C u') := fun u hu => class_call (HRt.out u) fun u' hb => HCo.out _ ((HCi.out _ hu).below hb)
  have d0 := HT.out.pkt.kind
  rw [hf] at K1
  have hcd : decide (4611686018427387904 < p.cur) = false := decide_eq_false (by omega)
  generalize p.cells.toArray = PC at *
  generalize p.kind = kind at *
  generalize p.cur = cur at *
  generalize s.self = me at *
  clear hC h hr
  go_enter Try.func13, Try.ntmps13
  go_wp2_with fail
  refine wp_region_class (C := C) (by kernel_rfl) (by kernel_rfl) HC0.out ?_
  repeat (first
    | go_big_quiet_skip
    | (go_big_quiet_want; refine quiet_load_row 29 (.tmp 3) rfl _ rfl 29 _ _ _ KB.out Try.underlying29 rfl HS29.out ?_; simp only [Act.put, List.setIfInBounds_toArray, List.set_cons_succ, List.set_cons_zero]; go_big_quiet_on)
    | (go_big_quiet_want; refine quiet_load_cell 22 (.tmp 16) rfl _ rfl _ K4.out isAgg22 ?_; simp only [Act.put, List.setIfInBounds_toArray, List.set_cons_succ, List.set_cons_zero]; go_big_quiet_on)
    | (go_big_quiet_want; refine quiet_load_cell 3 (.tmp 21) rfl _ rfl _ K1.out isAgg3 ?_; simp only [Act.put, List.setIfInBounds_toArray, List.set_cons_succ, List.set_cons_zero]; go_big_quiet_on)
    | (go_big_quiet_want; refine quiet_load_cell 3 (.tmp 25) rfl _ rfl _ KG.out isAgg3 ?_; simp only [Act.put, List.setIfInBounds_toArray, List.set_cons_succ, List.set_cons_zero]; go_big_quiet_on)
    | (go_big_quiet_want; refine quiet_load_cell 3 (.tmp 32) rfl _ rfl _ K2.out isAgg3 ?_; simp only [Act.put, List.setIfInBounds_toArray, List.set_cons_succ, List.set_cons_zero]; go_big_quiet_on)
    | (go_big_quiet_want; refine quiet_load_cell 3 (.tmp 36) rfl _ rfl _ KG.out isAgg3 ?_; simp only [Act.put, List.setIfInBounds_toArray, List.set_cons_succ, List.set_cons_zero]; go_big_quiet_on)
    | (go_big_quiet_want; go_big_quiet_op; first
        | go_big_quiet_on
        | (refine ⟨_, fun _ _ => rfl, ?_⟩; go_big_quiet_on)
        | (refine ⟨_, KR.out, ?_⟩; go_big_quiet_on)))
  refine wpQuiet_nil ?_
  intro wz hwz
  have HTz := Lib.hid (HCi.out _ hwz)
  clear hwz
  go_wp2
  go_ret
  exact ⟨rfl, HTz.out⟩

set_option maxRecDepth 100000 in
set_option maxHeartbeats 1600000 in
theorem take_no4 {w : World} {g : Nat} {s : VS} (h : ViewAt w g s) {p : PK} (hr : p.right = true) (hc : p.cur ≤ 4611686018427387904) (hf : p.frm ≠ s.self) (hk : p.kind = 3) (ho : p.of = s.self) :
    Calls Try.prog 13 #[.pointer (some ⟨g, 0, none⟩), p.val] w fun e w' => e = .returned (.slice none 0 0) ∧ TakeW w g s p w' := by
  have HRt := Lib.hid fun (u : World) => right_any p u
  rw [hr] at HRt
  have HT : Hid (TakeW w g s p (w.alloc (.cells p.cells.toArray 29))) := ⟨h.below ((Below.refl _ _).alloc (Nat.le_refl _) _), heap_alloc_new w _, below_only ((Below.refl _ _).alloc (Nat.le_refl _) _) g, by simp⟩
  unfold PK.val at *
  have HPS : Hid (p.cells.toArray.size = 261) := by rw [List.size_toArray]; exact p.cells_len
  have HS29 : Hid ((Try.prog.info? 29).map (·.size) = some p.cells.toArray.size) := by rw [HPS.out]; exact size29
  obtain ⟨C, hC⟩ : ∃ C : World → Prop, C = fun u => TakeW w g s p u := ⟨_, rfl⟩
  have HCi : Hid (∀ u, C u → TakeW w g s p u) := fun u h => by rw [hC] at h; exact h
  have HCo : Hid (∀ u, TakeW w g s p u → C u) := fun u h => by rw [hC]; exact h
  have HC0 : Hid (C (w.alloc (.cells p.cells.toArray 29)).drew) := HCo.out _ HT.out.drew
  have KB : Hid (∀ u, C u → u.heap[w.heap.size]? = some (.cells p.cells.toArray 29 (0, 0))) := fun u hu => (HCi.out u hu).pkt
  have K1 : Hid (∀ u, C u → u.cell? ⟨w.heap.size, 1, none⟩ = some (.int .i64 p.frm)) := fun u hu => (HCi.out u hu).pkt.frm
  have K2 : Hid (∀ u, C u → u.cell? ⟨w.heap.size, 2, none⟩ = some (.int .i64 p.of)) := fun u hu => (HCi.out u hu).pkt.of
  have K4 : Hid (∀ u, C u → u.cell? ⟨w.heap.size, 4, none⟩ = some (.int .u64 p.cur)) := fun u hu => (HCi.out u hu).pkt.cur
  have KG : Hid (∀ u, C u → u.cell? ⟨g, 0, none⟩ = some (.int .i64 s.self)) := fun u hu => (HCi.out u hu).view.self
  have KR : Hid (∀ u, C u → Calls Try.prog 31 #[.agg p.cells.toArray] u fun e u' => e = .returned (.bool true) ∧ C u') := fun u hu => class_call (HRt.out u) fun u' hb => HCo.out _ ((HCi.out _ hu).below hb)
  have d0 := HT.out.pkt.kind
  rw [ho] at K2
  have hcd : decide (4611686018427387904 < p.cur) = false := decide_eq_false (by omega)
  rw [hk] at d0
  have hfb : (p.frm == (s.self : Int)) = false := by rw [beq_eq_false_iff_ne]; exact hf
  generalize p.cells.toArray = PC at *
  generalize p.kind = kind at *
  generalize p.cur = cur at *
  generalize s.self = me at *
  generalize p.frm = frm at *
  clear hC h hr
  go_enter Try.func13, Try.ntmps13
  go_wp2_with fail
  refine wp_region_class (C := C) (by kernel_rfl) (by kernel_rfl) HC0.out ?_
  repeat (first
    | go_big_quiet_skip
    | (go_big_quiet_want; refine quiet_load_row 29 (.tmp 3) rfl _ rfl 29 _ _ _ KB.out Try.underlying29 rfl HS29.out ?_; simp only [Act.put, List.setIfInBounds_toArray, List.set_cons_succ, List.set_cons_zero]; go_big_quiet_on)
    | (go_big_quiet_want; refine quiet_load_cell 22 (.tmp 16) rfl _ rfl _ K4.out isAgg22 ?_; simp only [Act.put, List.setIfInBounds_toArray, List.set_cons_succ, List.set_cons_zero]; go_big_quiet_on)
    | (go_big_quiet_want; refine quiet_load_cell 3 (.tmp 21) rfl _ rfl _ K1.out isAgg3 ?_; simp only [Act.put, List.setIfInBounds_toArray, List.set_cons_succ, List.set_cons_zero]; go_big_quiet_on)
    | (go_big_quiet_want; refine quiet_load_cell 3 (.tmp 25) rfl _ rfl _ KG.out isAgg3 ?_; simp only [Act.put, List.setIfInBounds_toArray, List.set_cons_succ, List.set_cons_zero]; go_big_quiet_on)
    | (go_big_quiet_want; refine quiet_load_cell 3 (.tmp 32) rfl _ rfl _ K2.out isAgg3 ?_; simp only [Act.put, List.setIfInBounds_toArray, List.set_cons_succ, List.set_cons_zero]; go_big_quiet_on)
    | (go_big_quiet_want; refine quiet_load_cell 3 (.tmp 36) rfl _ rfl _ KG.out isAgg3 ?_; simp only [Act.put, List.setIfInBounds_toArray, List.set_cons_succ, List.set_cons_zero]; go_big_quiet_on)
    | (go_big_quiet_want; go_big_quiet_op; first
        | go_big_quiet_on
        | (refine ⟨_, fun _ _ => rfl, ?_⟩; go_big_quiet_on)
        | (refine ⟨_, KR.out, ?_⟩; go_big_quiet_on)))
  refine wpQuiet_nil ?_
  intro wz hwz
  have HTz := Lib.hid (HCi.out _ hwz)
  clear hwz
  go_wp2
  go_ret
  exact ⟨rfl, HTz.out⟩

end Go.Proofs.Ytlccbgjlinlioaa
