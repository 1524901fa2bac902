/- The walk of stands: the view tells what the document's tells. -/
import Derived.Test.YtlccbgjlinlioaaSame
namespace Go.Proofs.Ytlccbgjlinlioaa
open Go.RowKit

/-- where a law stands: the view in block g, the document's nodes in block gr, its box r -/
structure LawS (w : World) (g B gr cap r : Nat) (s : VS) (u : World) : Prop where
  view : ViewAt u g s
  rn : RN u B gr cap (NS.of s)
  box : Box u r (.int .i64 (s.self : Int)) (.slice (some ⟨gr, 0, none⟩) 64 cap) (.int .u64 s.cur)
  bel : Below w.heap.size w u
theorem LawS.belowW {w : World} {g B gr cap r : Nat} {s : VS} {u u' : World} (h : LawS w g B gr cap r s u) (hb : Below u.heap.size u u') : LawS w g B gr cap r s u' :=
  ⟨h.view.below hb, h.rn.below hb, h.box.below hb h.box.lt, h.bel.trans (hb.mono h.bel.size)⟩
theorem LawS.drew {w : World} {g B gr cap r : Nat} {s : VS} {u : World} (h : LawS w g B gr cap r s u) : LawS w g B gr cap r s u.drew :=
  ⟨h.view.drew, h.rn.drew, h.box.drew, below_drewN h.bel 1⟩

theorem isAgg31 (w : World) : (isAgg 31).run Try.prog w = .ok false w := by kernel_rfl
theorem wp_exec {P : Program} {o : Oper} {a : Act} {w : World} {K : Act → World → Prop} {Q : Exit → Act → World → Prop} (v : Value) (h : (execOp a.eval o).run P w = .ok (.value v) w) (hk : K (a.put o.dst v) w) : o.wp P a w K Q := by
  unfold Oper.wp
  rw [h]
  exact hk
theorem class_same {P : Program} {C : World → Prop} {f : FuncId} {args : Array Value} {w : World} {v : Value} (h : Calls P f args w fun e w' => e = .returned v ∧ w = w') (hC : C w) :
    Calls P f args w fun e w'' => e = .returned v ∧ C w'' := h.mono fun _ _ ⟨he, hr⟩ => ⟨he, hr ▸ hC⟩
theorem VS.epoch_at (s : VS) (m : Nat) (h : m < 64) : s.epoch m = s.ep m := by
  have hi : inNode m = true := decide_eq_true (by omega)
  unfold VS.epoch
  rw [if_pos hi, Int.toNat_natCast]

set_option maxRecDepth 100000 in
set_option maxHeartbeats 1600000 in
theorem stands_any {w : World} {g B gr cap : Nat} {s : VS} (hv : ViewAt w g s) (hr : RN w B gr cap (NS.of s)) {M : Int} (hok : s.Ok M) :
    Calls Try.prog 21 #[.pointer (some ⟨g, 0, none⟩), refVal s.self gr cap s.cur] w fun e w' => e = .returned (.bool true) ∧ Below w.heap.size w w' := by
  unfold refVal
  have hbel : Below w.heap.size w (w.alloc (.cells #[.int .i64 (s.self : Int), .slice (some ⟨gr, 0, none⟩) 64 cap, .int .u64 s.cur] 33)) := (Below.refl _ _).alloc (Nat.le_refl _) _
  have HS0 : LawS w g B gr cap w.heap.size s (w.alloc (.cells #[.int .i64 (s.self : Int), .slice (some ⟨gr, 0, none⟩) 64 cap, .int .u64 s.cur] 33)) := ⟨hv.below hbel, hr.below hbel, box1 w _ _ _, hbel⟩
  obtain ⟨C, hC⟩ : ∃ C : World → Prop, C = fun u => LawS w g B gr cap w.heap.size s u := ⟨_, rfl⟩
  have HCi : Hid (∀ u, C u → LawS w g B gr cap w.heap.size s u) := fun u h => by rw [hC] at h; exact h
  have HCo : Hid (∀ u, LawS w g B gr cap w.heap.size s u → C u) := fun u h => by rw [hC]; exact h
  have HC0 : Hid (C (w.alloc (.cells #[.int .i64 (s.self : Int), .slice (some ⟨gr, 0, none⟩) 64 cap, .int .u64 s.cur] 33)).drew) := HCo.out _ HS0.drew
  have HCd : Hid (∀ u, C u → C u.drew) := fun u hu => HCo.out _ (HCi.out u hu).drew
  have HCb : Hid (∀ u, C u → Below w.heap.size w u) := fun u hu => (HCi.out u hu).bel
  have K0 : Hid (∀ u, C u → u.cell? ⟨w.heap.size, 0, none⟩ = some (.int .i64 s.self)) := fun u hu => (HCi.out u hu).box.cell0
  have K1 : Hid (∀ u, C u → u.cell? ⟨w.heap.size, 1, none⟩ = some (.slice (some ⟨gr, 0, none⟩) 64 cap)) := fun u hu => (HCi.out u hu).box.cell1
  have K2 : Hid (∀ u, C u → u.cell? ⟨w.heap.size, 2, none⟩ = some (.int .u64 s.cur)) := fun u hu => (HCi.out u hu).box.cell2
  have KL : Hid (∀ u, C u → u.heap[w.heap.size]? = some (.cells #[.int .i64 (s.self : Int), .slice (some ⟨gr, 0, none⟩) 64 cap, .int .u64 s.cur] 33 (0, 0))) := fun u hu => (HCi.out u hu).box.heap
  have HS33 : Hid ((Try.prog.info? 33).map (·.size) = some (#[Value.int .i64 (s.self : Int), .slice (some ⟨gr, 0, none⟩) 64 cap, .int .u64 s.cur] : Array Value).size) := size33
  have KSelf : Hid (∀ u, C u → Calls Try.prog 27 #[.pointer (some ⟨g, 0, none⟩)] u fun e u' => e = .returned (.int .i64 s.self) ∧ C u') := fun u hu => class_same (self_any (HCi.out u hu).view) hu
  have KCur : Hid (∀ u, C u → Calls Try.prog 18 #[.pointer (some ⟨g, 0, none⟩)] u fun e u' => e = .returned (.int .u64 s.cur) ∧ C u') := fun u hu => class_same (current_any (HCi.out u hu).view) hu
  have KTell : Hid (∀ u, C u → Calls Try.prog 34 #[.pointer (some ⟨g, 0, none⟩), .int .i64 1] u fun e u' => e = .returned (s.tell 1).val ∧ C u') := fun u hu => class_call (tell_any (HCi.out u hu).view hok 1) fun u' hb => HCo.out _ ((HCi.out _ hu).belowW hb)
  have KRTell : Hid (∀ u, C u → Calls Try.prog 41 #[.agg #[.int .i64 (s.self : Int), .slice (some ⟨gr, 0, none⟩) 64 cap, .int .u64 s.cur], .int .i64 1] u fun e u' => e = .returned (s.tell 1).val ∧ C u') := fun u hu => class_call (rtell_any (HCi.out u hu).rn hok 1) fun u' hb => HCo.out _ ((HCi.out _ hu).belowW hb)
  have KN : Hid (∀ (u : World) (o : Oper) (a : Act) (x y : Operand) (t' : TypeId), o.op = .binOp .neq 29 x y t' → a.eval x = .agg (s.tell 1).cells.toArray → a.eval y = .agg (s.tell 1).cells.toArray → (execOp a.eval o).run Try.prog u = .ok (.value (.bool false)) u) := fun u o a x y t' ho hx hy => exec_neq29 ho _ hx hy
  have KE : Hid (∀ n : Int, ∀ u, C u → Calls Try.prog 15 #[.pointer (some ⟨g, 0, none⟩), .int .i64 n] u fun e u' => e = .returned (.int .u64 (s.epoch n)) ∧ C u') := fun n u hu => class_same (epoch_any (HCi.out u hu).view n) hu
  have KO : Hid (∀ n : Int, ∀ u, C u → Calls Try.prog 22 #[.pointer (some ⟨g, 0, none⟩), .int .i64 n] u fun e u' => e = .returned (.int .i64 (s.owner n)) ∧ C u') := fun n u hu => class_same (owner_any (HCi.out u hu).view hok n) hu
  have KCl : Hid (∀ n : Int, ∀ u, C u → Calls Try.prog 16 #[.pointer (some ⟨g, 0, none⟩), .int .i64 n] u fun e u' => e = .returned (.agg (wordsArr (wordsOf (s.owns n)))) ∧ C u') := fun n u hu => class_call (claims_any (HCi.out u hu).view hok n) fun u' hb => HCo.out _ ((HCi.out _ hu).belowW hb)
  have KRe : Hid (∀ m : Nat, m < 64 → ∀ u, C u → u.cell? ⟨gr, m * 257, none⟩ = some (.int .u64 (s.ep m))) := fun m hm u hu => (HCi.out u hu).rn.ep m hm
  have KRc : Hid (∀ m : Nat, m < 64 → ∀ u, C u → u.rangeAt gr (m * 257 + 1) (wordsList (wordsOf (s.owns m)))) := fun m hm u hu => (HCi.out u hu).rn.claims m hm
  have HEp : Hid (∀ m : Nat, m < 64 → s.epoch m = s.ep m) := fun m hm => s.epoch_at m hm
  have hen : s.epoch (-1) = 0 := rfl
  have hon : s.owner (-1) = -1 := rfl
  have hom : s.owner 16384 = -1 := rfl
  unfold PK.val at KTell KRTell
  generalize (s.tell 1).cells.toArray = TP at *
  clear hC hv hr hok hbel HS0 HCi HCo
  go_enter Try.func21, Try.ntmps21
  go_wp2_with fail
  refine wp_region_class (C := C) (by kernel_rfl) (by kernel_rfl) HC0.out ?_
  repeat (first
    | go_big_quiet_skip
    | (go_big_quiet_want; refine quiet_load_row 33 (.tmp 3) rfl _ rfl 33 _ _ _ KL.out Try.underlying33 rfl HS33.out ?_; simp only [Act.put, List.setIfInBounds_toArray, List.set_cons_succ, List.set_cons_zero]; go_big_quiet_on)
    | (go_big_quiet_want; refine quiet_load_cell 3 (.tmp 8) rfl _ rfl _ K0.out isAgg3 ?_; simp only [Act.put, List.setIfInBounds_toArray, List.set_cons_succ, List.set_cons_zero]; go_big_quiet_on)
    | (go_big_quiet_want; refine quiet_load_cell 22 (.tmp 14) rfl _ rfl _ K2.out isAgg22 ?_; simp only [Act.put, List.setIfInBounds_toArray, List.set_cons_succ, List.set_cons_zero]; go_big_quiet_on)
    | (go_big_quiet_want; refine quiet_exec _ (fun u _ => KN.out u _ _ _ _ _ rfl rfl rfl) ?_; simp only [Act.put, List.setIfInBounds_toArray, List.set_cons_succ, List.set_cons_zero]; go_big_quiet_on)
    | (go_big_quiet_want; go_big_quiet_op; first
        | go_big_quiet_on
        | (refine ⟨_, fun _ _ => rfl, ?_⟩; go_big_quiet_on)
        | (refine ⟨_, KSelf.out, ?_⟩; go_big_quiet_on)
        | (refine ⟨_, KCur.out, ?_⟩; go_big_quiet_on)
        | (refine ⟨_, KTell.out, ?_⟩; go_big_quiet_on)
        | (refine ⟨_, KRTell.out, ?_⟩; go_big_quiet_on)))
  refine wpQuiet_nil ?_
  intro wz hwz
  have HCz := Lib.hid hwz
  clear hwz
  go_wp2_with fail
  go_loopw [25] (fun c wx => ∃ m : Nat, m ≤ 64 ∧ c = .int .i64 m ∧ Hid (C wx)) (fun c _ => 64 - (intOf c).toNat)
  case atStart => exact ⟨0, Nat.zero_le _, rfl, HCz⟩
  case round =>
    obtain ⟨m, hm, rfl, HCx⟩ := hrel
    by_cases hlt : m < 64
    · have hmi : (0 : Int) ≤ (m : Int) ∧ (m : Int) < 64 := by omega
      have HRe := Lib.hid (KRe.out m hlt)
      have HRc := Lib.hid (KRc.out m hlt)
      have HE := Lib.hid (KE.out m)
      have HCl := Lib.hid (KCl.out m)
      rw [HEp.out m hlt] at HE
      have HS24 : Hid ((Try.prog.info? 24).map (·.size) = some (wordsList (wordsOf (s.owns m))).length) := by rw [wordsList_len]; exact size24b
      have KN2 : Hid (∀ (u : World) (o : Oper) (a : Act) (x y : Operand) (t' : TypeId), o.op = .binOp .neq 24 x y t' → a.eval x = .agg (wordsArr (wordsOf (s.owns m))) → a.eval y = .agg (wordsArr (wordsOf (s.owns m))) → (execOp a.eval o).run Try.prog u = .ok (.value (.bool false)) u) := fun u o a x y t' ho hx hy => exec_neq24 ho _ hx hy
      have HCd0 := Lib.hid (HCd.out _ HCx.out)
      unfold wordsArr at HCl KN2
      generalize wordsList (wordsOf (s.owns m)) = WL at *
      go_wp2_with fail
      refine wp_region_class (C := C) (by kernel_rfl) (by kernel_rfl) HCd0.out ?_
      repeat (first
        | go_big_quiet_skip
        | (go_big_quiet_want; refine quiet_load_cell 31 (.tmp 31) rfl _ rfl _ K1.out isAgg31 ?_; simp only [Act.put, List.setIfInBounds_toArray, List.set_cons_succ, List.set_cons_zero]; go_big_quiet_on)
        | (go_big_quiet_want; refine quiet_load_cell 31 (.tmp 42) rfl _ rfl _ K1.out isAgg31 ?_; simp only [Act.put, List.setIfInBounds_toArray, List.set_cons_succ, List.set_cons_zero]; go_big_quiet_on)
        | (go_big_quiet_want; refine quiet_load_cell 22 (.tmp 35) rfl _ rfl _ HRe.out isAgg22 ?_; simp only [Act.put, List.setIfInBounds_toArray, List.set_cons_succ, List.set_cons_zero]; go_big_quiet_on)
        | (go_big_quiet_want; refine quiet_load_mid 24 (.tmp 46) rfl gr (m * 257 + 1) rfl WL _ HRc.out Try.underlying24 rfl HS24.out ?_; simp only [Act.put, List.setIfInBounds_toArray, List.set_cons_succ, List.set_cons_zero]; go_big_quiet_on)
        | (go_big_quiet_want; refine quiet_exec _ (fun u _ => KN2.out u _ _ _ _ _ rfl rfl rfl) ?_; simp only [Act.put, List.setIfInBounds_toArray, List.set_cons_succ, List.set_cons_zero]; go_big_quiet_on)
        | (go_big_quiet_want; go_big_quiet_op; first
            | go_big_quiet_on
            | (refine ⟨_, fun _ _ => rfl, ?_⟩; go_big_quiet_on)
            | (refine ⟨_, HE.out, ?_⟩; go_big_quiet_on)
            | (refine ⟨_, HCl.out, ?_⟩; go_big_quiet_on)))
      refine wpQuiet_nil ?_
      intro wy hwy
      have HCy := Lib.hid hwy
      clear hwy
      go_wp2
      go_roundw
      case rel => exact ⟨m + 1, by omega, by go_num, HCy⟩
      case measure => simp [intOf]; omega
    · have hm2 : m = 64 := by omega
      subst hm2
      have HE := Lib.hid (KE.out (-1))
      have HO := Lib.hid (KO.out (-1))
      have HP := Lib.hid (KO.out 16384)
      rw [hen] at HE
      rw [hon] at HO
      rw [hom] at HP
      clear hen hon hom
      go_wp2_with fail
      refine (HE.out _ HCx.out).mono ?_
      rintro e w3 ⟨rfl, h3⟩
      have H3 := Lib.hid h3
      clear h3
      go_wp2_with fail
      refine (HO.out _ H3.out).mono ?_
      rintro e w4 ⟨rfl, h4⟩
      have H4 := Lib.hid h4
      clear h4
      go_wp2_with fail
      refine (HP.out _ H4.out).mono ?_
      rintro e w5 ⟨rfl, h5⟩
      have H5 := Lib.hid h5
      clear h5
      go_wp2
      go_ret
      exact ⟨rfl, HCb.out _ H5.out⟩
end Go.Proofs.Ytlccbgjlinlioaa
