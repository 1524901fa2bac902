/- Two texts of two bytes. -/
import Derived.Test.YtfokonoeaifceaaDoorXors
import Derived.Laws.StructEq
import Derived.DeepKeys
namespace Go.Proofs.YtfokonoeaifceaaDoor
open Go.RowKit CrcM

theorem quiet_load_row {P : Program} {C : World → Prop} {o : Oper} {a : Act} {K : Act → Prop} (ty : TypeId) (x : Operand) (ho : o.op = .load ty x)
    (g : Nat) (hx : a.eval x = .pointer (some ⟨g, 0, none⟩)) (t : TypeId) (cs : Array Value) (fr : Nat × Nat) (d : TypeDesc) (hg : ∀ w, C w → w.heap[g]? = some (.cells cs t fr))
    (hu : P.underlying ty = some d) (hd : (match d with | .struct _ | .array _ _ => true | _ => false) = true) (hi : (P.info? ty).map (·.size) = some cs.size)
    (hk : K (a.put o.dst (.agg cs))) : o.quiet P a C K := by
  refine ⟨.agg cs, fun w hw => ?_, hk⟩
  unfold Oper.quietAt execOp
  simp only [ho, hx, Instr.loadAt, Instr.sureAddr, Sem.run_bind, Sem.run_pure, Result.andThen_ok, run_loadVar_row w g t ty cs fr d (hg w hw) hu hd hi]
  exact ⟨rfl, rfl⟩

theorem bytesAt_box (w : World) (x y : Int) (t : TypeId) (g : Nat) (h : w.heap[g]? = some (.cells #[.int .u8 x, .int .u8 y] t (0, 0))) : BytesAt w (.slice (some ⟨g, 0, none⟩) 2 2) [x, y] := by
  refine .inr ⟨g, 0, 2, rfl, fun i hi => ?_⟩
  have hi' : i < 2 := hi
  rw [Nat.zero_add, cell_of_row w g i _ t (0, 0) h]
  rcases (show i = 0 ∨ i = 1 by omega) with rfl | rfl <;> rfl

set_option maxHeartbeats 800000 in
theorem pairs_core (a0 a1 b0 b1 : Int) (sa sb : BitVec 16) (r : Bool) (w : World) (ha0 : isByte a0) (ha1 : isByte a1) (hb0 : isByte b0) (hb1 : isByte b1) (ht : TabAt w) (hB : 0 < w.heap.size)
    (hsa : crc 0 [a0, a1] = sa) (hsb : crc 0 [b0, b1] = sb) (hr1 : ((sa.toNat : Int) == (sb.toNat : Int)) = r) (hr2 : ∀ w', (binOp .eql 33 (.agg #[.int .u8 a0, .int .u8 a1]) (.agg #[.int .u8 b0, .int .u8 b1])).run Tryd.prog w' = .ok (.bool r) w') :
    Calls Tryd.prog 10 #[.agg #[.int .u8 a0, .int .u8 a1], .agg #[.int .u8 b0, .int .u8 b1]] w fun e w' => e = .returned (.bool true) ∧ Below w.heap.size w w' := by
  obtain ⟨W, hW⟩ : ∃ W : World, W = (w.alloc (.cells #[.int .u8 a0, .int .u8 a1] 33)).alloc (.cells #[.int .u8 b0, .int .u8 b1] 33) := ⟨_, rfl⟩
  have hWb : Below w.heap.size w W := by rw [hW]; exact ((Below.refl _ _).alloc (Nat.le_refl _) _).alloc (by simp) _
  have hg0 : W.heap[w.heap.size]? = some (.cells #[.int .u8 a0, .int .u8 a1] 33 (0, 0)) := by rw [hW]; exact heap_alloc2_old _ _ _
  have hg1 : W.heap[w.heap.size + 1]? = some (.cells #[.int .u8 b0, .int .u8 b1] 33 (0, 0)) := by rw [hW]; exact heap_alloc2_new _ _ _
  have hWs : W.heap.size = w.heap.size + 2 := by rw [hW]; simp
  obtain ⟨C, hC⟩ : ∃ C : World → Prop, C = fun w' => Below W.heap.size W w' := ⟨_, rfl⟩
  have hC0 : C W.drew := by rw [hC]; exact (Below.refl _ _).drew
  have hCi : ∀ w', C w' → Below W.heap.size W w' := fun w' h => by rw [hC] at h; exact h
  have hCo : ∀ w', Below W.heap.size W w' → C w' := fun w' h => by rw [hC]; exact h
  clear hC
  have hB' : ∀ w', Below W.heap.size W w' → Below w.heap.size w w' := fun w' h => hWb.trans (h.mono hWb.size)
  have c0 : ∀ w', C w' → w'.heap[w.heap.size]? = some (.cells #[.int .u8 a0, .int .u8 a1] 33 (0, 0)) := fun w' h => ((hCi w' h).block _ (by omega)).trans hg0
  have c1 : ∀ w', C w' → w'.heap[w.heap.size + 1]? = some (.cells #[.int .u8 b0, .int .u8 b1] 33 (0, 0)) := fun w' h => ((hCi w' h).block _ (by omega)).trans hg1
  have k1 : ∀ w', C w' → Calls Tryd.prog 11 #[] w' fun e w'' => e = .returned (.bool true) ∧ C w'' := fun w' hw' =>
    class_call (alive_true w' (ht.below (hB' _ (hCi _ hw')) hB) (by have := (hB' _ (hCi _ hw')).size; omega)) fun w'' h => hCo _ ((hCi _ hw').trans (h.mono (hCi _ hw').size))
  have k2 : ∀ w', C w' → Calls Tryd.prog 12 #[.slice (some ⟨w.heap.size, 0, none⟩) 2 2] w' fun e w'' => e = .returned (.int .u16 sa.toNat) ∧ C w'' := fun w' hw' => by
    rw [← hsa]
    exact class_call (R := fun w'' => w' = w'') (sum_bytes _ _ w' (bytesAt_box w' a0 a1 33 _ (c0 w' hw')) (by simp) (by simp [ha0, ha1]) (ht.below (hB' _ (hCi _ hw')) hB)) fun w'' h => h ▸ hw'
  have k3 : ∀ w', C w' → Calls Tryd.prog 12 #[.slice (some ⟨w.heap.size + 1, 0, none⟩) 2 2] w' fun e w'' => e = .returned (.int .u16 sb.toNat) ∧ C w'' := fun w' hw' => by
    rw [← hsb]
    exact class_call (R := fun w'' => w' = w'') (sum_bytes _ _ w' (bytesAt_box w' b0 b1 33 _ (c1 w' hw')) (by simp) (by simp [hb0, hb1]) (ht.below (hB' _ (hCi _ hw')) hB)) fun w'' h => h ▸ hw'
  have K1 := Lib.hid k1
  have K2 := Lib.hid k2
  have K3 := Lib.hid k3
  have G0 := Lib.hid c0
  have G1 := Lib.hid c1
  have HCi := Lib.hid hCi
  have HB' := Lib.hid hB'
  have HW := Lib.hid hW
  clear k1 k2 k3 c0 c1 hCi hCo hB' hWb hg0 hg1 hWs ht ha0 ha1 hb0 hb1 hsa hsb hW
  go_enter Tryd.func10, Tryd.ntmps10
  go_wp2_with fail
  rw [← HW.out]
  refine wp_region_class (C := C) (by kernel_rfl) (by kernel_rfl) hC0 ?_
  repeat (first
    | go_big_quiet_skip
    | (go_big_quiet_want; refine quiet_load_row 33 (.tmp 2) rfl _ rfl 33 _ _ _ G0.out Tryd.underlying33 rfl (by kernel_rfl) ?_; simp only [Act.put, List.setIfInBounds_toArray, List.set_cons_succ, List.set_cons_zero]; go_big_quiet_on)
    | (go_big_quiet_want; refine quiet_load_row 33 (.tmp 3) rfl _ rfl 33 _ _ _ G1.out Tryd.underlying33 rfl (by kernel_rfl) ?_; simp only [Act.put, List.setIfInBounds_toArray, List.set_cons_succ, List.set_cons_zero]; go_big_quiet_on)
    | (go_big_quiet_want; go_big_quiet_op; first
        | go_big_quiet_on
        | (refine ⟨_, fun _ _ => rfl, ?_⟩; go_big_quiet_on)
        | (refine ⟨_, K1.out, ?_⟩; go_big_quiet_on)
        | (refine ⟨_, K2.out, ?_⟩; go_big_quiet_on)
        | (refine ⟨_, K3.out, ?_⟩; go_big_quiet_on)))
  refine wpQuiet_nil ?_
  intro w3 hw3
  have HB3 := Lib.hid (HB'.out _ (HCi.out _ hw3))
  go_wp2
  go_ret
  exact ⟨rfl, HB3.out⟩

theorem wf_byte (x : Int) (h : isByte x) : (Lit.int .u8 x).wf = true := by
  obtain ⟨h0, h1⟩ := h
  have e1 : IntKind.u8.min = 0 := rfl
  have e2 : IntKind.u8.max = 255 := rfl
  simp only [Lit.wf, Bool.and_eq_true, decide_eq_true_eq]
  omega

theorem lits33 (x y : Int) (hx : isByte x) (hy : isByte y) : Tryd.prog.keyLits 2 33 [.int .u8 x, .int .u8 y] = some [.int .u8 x, .int .u8 y] := by
  have h1 : Tryd.prog.cellsOf 5 = 1 := by kernel_rfl
  have h2 : Tryd.prog.cellsOf 33 = 2 := by kernel_rfl
  simp [Program.keyLits, Tryd.underlying33, Tryd.underlying5, h1, h2, List.range_succ, wf_byte x hx, wf_byte y hy]

theorem eql33 (a0 a1 b0 b1 : Int) (w : World) (ha0 : isByte a0) (ha1 : isByte a1) (hb0 : isByte b0) (hb1 : isByte b1) :
    (binOp .eql 33 (.agg #[.int .u8 a0, .int .u8 a1]) (.agg #[.int .u8 b0, .int .u8 b1])).run Tryd.prog w = .ok (.bool (a0 == b0 && a1 == b1)) w := by
  rw [run_eql_struct]
  obtain ⟨r, hr, hiff⟩ := run_equalIn_deep (P := Tryd.prog) 9998 2 33 (by kernel_rfl) w 2 2 (.agg #[.int .u8 a0, .int .u8 a1]) (.agg #[.int .u8 b0, .int .u8 b1]) _ _ (by kernel_rfl) (by kernel_rfl) (lits33 a0 a1 ha0 ha1) (lits33 b0 b1 hb0 hb1)
  rw [hr]
  have e : r = (a0 == b0 && a1 == b1) := by
    rw [Bool.eq_iff_iff, hiff]
    simp
  rw [e]
  rfl

theorem pairs_walk (a0 a1 b0 b1 : Int) (w : World) (ha0 : isByte a0) (ha1 : isByte a1) (hb0 : isByte b0) (hb1 : isByte b1) (ht : TabAt w) (hB : 0 < w.heap.size) :
    Calls Tryd.prog 10 #[.agg #[.int .u8 a0, .int .u8 a1], .agg #[.int .u8 b0, .int .u8 b1]] w fun e w' => e = .returned (.bool true) ∧ Below w.heap.size w w' := by
  refine pairs_core a0 a1 b0 b1 _ _ (a0 == b0 && a1 == b1) w ha0 ha1 hb0 hb1 ht hB rfl rfl ?_ (fun w' => eql33 a0 a1 b0 b1 w' ha0 ha1 hb0 hb1)
  by_cases h : a0 = b0 ∧ a1 = b1
  · obtain ⟨rfl, rfl⟩ := h
    simp
  · have hne : ¬ crc 0 [a0, a1] = crc 0 [b0, b1] := fun e => h (crc_pair_inj a0 a1 b0 b1 ha0 ha1 hb0 hb1 e)
    have e1 : (a0 == b0 && a1 == b1) = false := by
      rw [Bool.and_eq_false_iff]
      by_cases h0 : a0 = b0
      · right; simpa using fun h1 => h ⟨h0, h1⟩
      · left; simpa using h0
    rw [e1, beq_eq_false_iff_ne]
    intro e
    exact hne (BitVec.eq_of_toNat_eq (by omega))
end Go.Proofs.YtfokonoeaifceaaDoor
