/- A script of one call, built by a law; guarded operations. -/
import Derived.Test.YtlccbgjlinlioaaAll
namespace Go.Proofs.Ytlccbgjlinlioaa
open Go.RowKit

/-- an operation whose guard says yes -/
theorem wpList_wanted {P : Program} {ops : Array Oper} {rest : List Oper} {o : Oper} {a : Act} {w : World} {Q : Exit → Act → World → Prop} (hw : Region.wanted o (yielded ops a.tmps) = true)
    (h : ∀ K : Act → World → Prop, (∀ a w, wpList P ops Q rest a w → K a w) → o.wp P a w K Q) : wpList P ops Q (o :: rest) a w :=
  wpList_step fun K hK => by rw [if_pos hw]; exact h K hK
theorem wpList_exec {P : Program} {ops : Array Oper} {rest : List Oper} {o : Oper} {a : Act} {w : World} {Q : Exit → Act → World → Prop} (hw : Region.wanted o (yielded ops a.tmps) = true) (v : Value)
    (h : (execOp a.eval o).run P w = .ok (.value v) w) (hk : wpList P ops Q rest (a.put o.dst v) w) : wpList P ops Q (o :: rest) a w :=
  wpList_wanted hw fun _ hK => wp_exec v h (hK _ _ hk)

/-- the call that a law makes of a packet -/
def OPV.one (p : PK) : OPV := ⟨0, 0, 0, 0, p⟩
set_option maxRecDepth 100000 in
theorem build38 (p : PK) : Try.prog.built 38 [(4, .agg p.cells.toArray)] = some (OPV.one p).cells.toArray := by kernel_rfl
set_option maxRecDepth 100000 in
theorem fill27 (o : OPV) : Instr.fill (fun i => some (i * 265, 265)) zeroOp [(0, .agg o.cells.toArray)] = some o.cells.toArray := by kernel_rfl
set_option maxRecDepth 100000 in
theorem zrow27 : (Array.range 265).map (fun x => zeroOp[x % 265]!) = zeroOp := by kernel_rfl
theorem under27 : Try.prog.underlying 27 = some (.slice 38) := by kernel_rfl
theorem sizeOf38 (w : World) : (sizeOf 38).run Try.prog w = .ok 265 w := by kernel_rfl

theorem run_buildSlice27_F (w : World) (F Z : Array Value) (hs : Z.size = 265) (hz : ∀ w, (zeroValue 38).run Try.prog w = .ok (.agg Z) w) (hzr : (Array.range 265).map (fun x => Z[x % 265]!) = Z) (hf : Instr.fill (fun i => some (i * 265, 265)) Z [(0, .agg F)] = some F) :
    (Instr.buildSlice 27 1 #[(0, .agg F)]).run Try.prog w = .ok (.slice (some ⟨w.heap.size, 0, none⟩) 1 1) (w.alloc (.cells F 38)) := by
  unfold Instr.buildSlice
  have n1 : ¬ (1 * 265 > 2 ^ 24) := by decide
  have n2 : ¬ (1 * 265 = 0) := by decide
  generalize hN : 1 * 265 = N at *
  simp only [Sem.run_bind, run_underlying under27, Result.andThen_ok, sizeOf38, hN, n1, n2, if_false, Sem.run_pure, hz, Value.cells, hs]
  have hN2 : N = 265 := hN.symm
  subst hN2
  simp only [hzr, hf]
  rfl
theorem run_buildSlice27 (o : OPV) (w : World) : (Instr.buildSlice 27 1 #[(0, .agg o.cells.toArray)]).run Try.prog w = .ok (.slice (some ⟨w.heap.size, 0, none⟩) 1 1) (w.alloc (.cells o.cells.toArray 38)) :=
  run_buildSlice27_F w _ zeroOp zeroOp_size zero38 zrow27 (fill27 o)

theorem wpList_buildSlice27 {ops : Array Oper} {rest : List Oper} {o : Oper} {a : Act} {w : World} {Q : Exit → Act → World → Prop} (hw : Region.wanted o (yielded ops a.tmps) = true) (x : Operand) (ho : o.op = .buildSlice 27 1 #[(0, x)]) (F : Array Value) (hx : a.eval x = .agg F)
    (hr : ∀ u, (Instr.buildSlice 27 1 #[(0, .agg F)]).run Try.prog u = .ok (.slice (some ⟨u.heap.size, 0, none⟩) 1 1) (u.alloc (.cells F 38)))
    (h : wpList Try.prog ops Q rest (a.put o.dst (.slice (some ⟨w.heap.size, 0, none⟩) 1 1)) (w.alloc (.cells F 38))) : wpList Try.prog ops Q (o :: rest) a w := by
  refine wpList_wanted hw fun K hK => ?_
  unfold Oper.wp execOp
  simp only [ho, List.map_toArray, List.map_cons, List.map_nil, hx, Sem.run_bind, hr, Result.andThen_ok]
  exact hK _ _ h

theorem exec_load_row {P : Program} {o : Oper} {a : Act} {u : World} (ty : TypeId) (x : Operand) (ho : o.op = .load ty x) (g : Nat) (hx : a.eval x = .pointer (some ⟨g, 0, none⟩)) (t : TypeId) (cs : Array Value) (fr : Nat × Nat) (d : TypeDesc) (hg : u.heap[g]? = some (.cells cs t fr))
    (hu : P.underlying ty = some d) (hd : (match d with | .struct _ | .array _ _ => true | _ => false) = true) (hi : (P.info? ty).map (·.size) = some cs.size) : (execOp a.eval o).run P u = .ok (.value (.agg cs)) u := by
  unfold execOp
  simp only [ho, hx, Instr.loadAt, Instr.sureAddr, Sem.run_bind, Sem.run_pure, Result.andThen_ok, run_loadVar_row u g t ty cs fr d hg hu hd hi]

/-- the script of one call -/
theorem one_in (w : World) (p : PK) (hp : p.Ok) : OpsIn (w.alloc (.cells (OPV.one p).cells.toArray 38)) (.slice (some ⟨w.heap.size, 0, none⟩) 1 1) [OPV.one p] := by
  refine ⟨some ⟨w.heap.size, 0, none⟩, 1, rfl, fun o ho => ?_, by simp, fun _ => ⟨w.heap.size, 0, rfl, by simp, fun i o ho j x hx => ?_⟩⟩
  · rw [List.mem_singleton.1 ho]
    exact ⟨by show (0 : Int) ≤ 0; decide, hp⟩
  · match i, ho with
    | 0, ho =>
      simp at ho
      subst ho
      rw [cell_of_row _ _ _ _ _ _ (heap_alloc_new w _), List.getElem?_toArray]
      simpa using hx
end Go.Proofs.Ytlccbgjlinlioaa
