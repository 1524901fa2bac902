/- A row of packets: building a slice of one, appending. -/
import Derived.Test.YtlccbgjlinlioaaPkt
import Derived.Laws.AppendOwn
namespace Go.Proofs.Ytlccbgjlinlioaa
open Go.RowKit

/-- the cells of a row of packets -/
def pkRow (l : List PK) : List Value := l.flatMap PK.cells
theorem pkRow_append (a b : List PK) : pkRow (a ++ b) = pkRow a ++ pkRow b := by simp [pkRow]
theorem pkRow_one (p : PK) : pkRow [p] = p.cells := by simp [pkRow]
theorem pkRow_len : ∀ l : List PK, (pkRow l).length = l.length * 261
  | [] => rfl
  | p :: l => by
    have := pkRow_len l
    simp only [pkRow, List.flatMap_cons, List.length_append, PK.cells_len, List.length_cons] at *
    omega

set_option maxRecDepth 100000 in
theorem fill40 (p : PK) : Instr.fill (fun i => some (i * 261, 261)) zeroPkt [(0, p.val)] = some p.cells.toArray := by kernel_rfl
set_option maxRecDepth 100000 in
theorem zrow40 : (Array.range 261).map (fun x => zeroPkt[x % 261]!) = zeroPkt := by kernel_rfl
theorem under40 : Try.prog.underlying 40 = some (.slice 29) := by kernel_rfl
theorem sizeOf29 (w : World) : (sizeOf 29).run Try.prog w = .ok 261 w := by kernel_rfl

theorem run_buildSlice_F (w : World) (F Z : Array Value) (hs : Z.size = 261) (hz : ∀ w, (zeroValue 29).run Try.prog w = .ok (.agg Z) w) (hzr : (Array.range 261).map (fun x => Z[x % 261]!) = Z) (hf : Instr.fill (fun i => some (i * 261, 261)) Z [(0, .agg F)] = some F) :
    (Instr.buildSlice 40 1 #[(0, .agg F)]).run Try.prog w = .ok (.slice (some ⟨w.heap.size, 0, none⟩) 1 1) (w.alloc (.cells F 29)) := by
  unfold Instr.buildSlice
  have n1 : ¬ (1 * 261 > 2 ^ 24) := by decide
  have n2 : ¬ (1 * 261 = 0) := by decide
  generalize hN : 1 * 261 = N at *
  simp only [Sem.run_bind, run_underlying under40, Result.andThen_ok, sizeOf29, hN, n1, n2, if_false, Sem.run_pure, hz, Value.cells, hs]
  have hN2 : N = 261 := hN.symm
  subst hN2
  simp only [hzr, hf]
  rfl
theorem run_buildSlice40 (p : PK) (w : World) : (Instr.buildSlice 40 1 #[(0, p.val)]).run Try.prog w = .ok (.slice (some ⟨w.heap.size, 0, none⟩) 1 1) (w.alloc (.cells p.cells.toArray 29)) :=
  run_buildSlice_F w _ zeroPkt zeroPkt_size zero29 zrow40 (fill40 p)

theorem wpList_buildSlice40 {ops : Array Oper} {rest : List Oper} {o : Oper} {a : Act} {w : World} {Q : Exit → Act → World → Prop} (hg : o.guard = none) (x : Operand) (ho : o.op = .buildSlice 40 1 #[(0, x)]) (p : PK) (hx : a.eval x = .agg p.cells.toArray)
    (h : wpList Try.prog ops Q rest (a.put o.dst (.slice (some ⟨w.heap.size, 0, none⟩) 1 1)) (w.alloc (.cells p.cells.toArray 29))) : wpList Try.prog ops Q (o :: rest) a w := by
  refine wpList_plain hg fun K hK => ?_
  unfold Oper.wp execOp
  have hr := run_buildSlice40 p w
  unfold PK.val at hr
  simp only [ho, List.map_toArray, List.map_cons, List.map_nil, hx, Sem.run_bind, hr, Result.andThen_ok]
  exact hK _ _ h

theorem wp_buildSlice40 {o : Oper} {a : Act} {w : World} {K : Act → World → Prop} {Q : Exit → Act → World → Prop} (x : Operand) (ho : o.op = .buildSlice 40 1 #[(0, x)]) (F : Array Value) (hx : a.eval x = .agg F)
    (hr : ∀ u, (Instr.buildSlice 40 1 #[(0, .agg F)]).run Try.prog u = .ok (.slice (some ⟨u.heap.size, 0, none⟩) 1 1) (u.alloc (.cells F 29)))
    (h : K (a.put o.dst (.slice (some ⟨w.heap.size, 0, none⟩) 1 1)) (w.alloc (.cells F 29))) : o.wp Try.prog a w K Q := by
  unfold Oper.wp execOp
  simp only [ho, List.map_toArray, List.map_cons, List.map_nil, hx, Sem.run_bind, hr, Result.andThen_ok]
  exact h

/-- a row of packets that the call has made -/
def RowAt (w : World) (B : Nat) (v : Value) (l : List PK) : Prop := w.ownsRow B 29 261 v l.length (pkRow l)
theorem RowAt.nil (w : World) (B : Nat) : RowAt w B (.slice none 0 0) [] := World.ownsRow_nil w B 29 261

theorem info29 : Try.prog.info? 29 = some Try.t29 := by kernel_rfl
theorem t29zero : Try.t29.zero = some (.agg zeroPkt) := by kernel_rfl
theorem t29size : Try.t29.size = 261 := by kernel_rfl
theorem t29bytes : Try.t29.bytes = 2088 := by kernel_rfl

theorem PK.oneCells (p : PK) : ∀ v ∈ p.cells, v.oneCell' = true := by
  intro v hv
  unfold PK.cells wordsList at hv
  simp only [List.mem_append, List.mem_cons, List.not_mem_nil, or_false, List.mem_map] at hv
  rcases hv with (rfl | rfl | rfl | rfl | rfl) | ⟨i, _, rfl⟩ <;> rfl

/-- one packet more -/
theorem run_append40 {w : World} {B : Nat} {v : Value} {l : List PK} (ty : TypeId) (h : RowAt w B v l) (hl : l.length ≤ 1000) (hB : B ≤ w.heap.size) (b : Nat) (p : PK) (hb : w.heap[b]? = some (.cells p.cells.toArray 29 (0, 0))) :
    ∃ v' w', (Builtin.append_ #[40, 40] ty #[v, .slice (some ⟨b, 0, none⟩) 1 1]).run Try.prog w = .ok v' w' ∧ RowAt w' B v' (l ++ [p]) ∧ w.grownBy w' v.ownBlock := by
  obtain ⟨v', w', h1, h2, h3, _⟩ := run_append_own (P := Try.prog) w B 40 ty 29 Try.t29 (.agg zeroPkt) 261 2088 under40 info29 t29zero t29size t29bytes zeroPkt_size (by decide) v l.length (pkRow l) h ⟨b, 0, none⟩ 1 1 p.cells (by rw [PK.cells_len])
    (fun j u hu => by
      have e : (⟨b, 0, none⟩ : Addr).add j = ⟨b, j, none⟩ := by rw [Addr.add_mid, Nat.zero_add]
      rw [e, cell_of_row _ _ _ _ _ _ hb, List.getElem?_toArray]
      exact hu) p.oneCells (by simp only [maxLen]; omega) (by omega) hB
  refine ⟨v', w', h1, ?_, h3⟩
  unfold RowAt
  rw [pkRow_append, pkRow_one, List.length_append]
  exact h2
theorem wp_append40 {o : Oper} {a : Act} {w : World} {K : Act → World → Prop} {Q : Exit → Act → World → Prop} (s x : Operand) (ho : o.op = .call { callee := .builtin .append, args := #[s, x], argTypes := #[40, 40] })
    (B : Nat) (v : Value) (l : List PK) (hs : a.eval s = v) (h : RowAt w B v l) (hl : l.length ≤ 1000) (hB : B ≤ w.heap.size) (b : Nat) (p : PK) (hx : a.eval x = .slice (some ⟨b, 0, none⟩) 1 1) (hb : w.heap[b]? = some (.cells p.cells.toArray 29 (0, 0)))
    (hk : ∀ v' w', RowAt w' B v' (l ++ [p]) → w.grownBy w' v.ownBlock → K (a.put o.dst v') w') : o.wp Try.prog a w K Q := by
  obtain ⟨v', w', hr, h2, h3⟩ := run_append40 o.type h hl hB b p hb
  unfold Oper.wp execOp
  simp only [ho, resolve, invoke, builtin, Sem.run_bind, Sem.run_pure, Result.andThen_ok, List.map_toArray, List.map_cons, List.map_nil, hs, hx, hr]
  exact hk v' w' h2 h3
theorem wpList_append40 {ops : Array Oper} {rest : List Oper} {o : Oper} {a : Act} {w : World} {Q : Exit → Act → World → Prop} (hg : o.guard = none) (s x : Operand) (ho : o.op = .call { callee := .builtin .append, args := #[s, x], argTypes := #[40, 40] })
    (B : Nat) (v : Value) (l : List PK) (hs : a.eval s = v) (h : RowAt w B v l) (hl : l.length ≤ 1000) (hB : B ≤ w.heap.size) (b : Nat) (p : PK) (hx : a.eval x = .slice (some ⟨b, 0, none⟩) 1 1) (hb : w.heap[b]? = some (.cells p.cells.toArray 29 (0, 0)))
    (hk : ∀ v' w', RowAt w' B v' (l ++ [p]) → w.grownBy w' v.ownBlock → wpList Try.prog ops Q rest (a.put o.dst v') w') : wpList Try.prog ops Q (o :: rest) a w :=
  wpList_plain hg fun _ hK => wp_append40 s x ho B v l hs h hl hB b p hx hb fun v' w' h2 h3 => hK _ _ (hk v' w' h2 h3)
end Go.Proofs.Ytlccbgjlinlioaa
