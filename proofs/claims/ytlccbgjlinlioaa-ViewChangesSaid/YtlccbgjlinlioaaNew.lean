/- The walk of New. -/
import Derived.Test.YtlccbgjlinlioaaClos
import Derived.Laws.Tables
namespace Go.Proofs.Ytlccbgjlinlioaa
open Go.RowKit

/-- a new view, before its owners are laid -/
def bareV (n : Nat) (e : Int) : VS := { self := n, own := fun _ => 0, ep := fun _ => 0, cur := e }

noncomputable def bareCells (n : Nat) (e : Int) : Array Value := (zeroCells.setIfInBounds 0 (.int .i64 (n : Int))).setIfInBounds 16449 (.int .u64 e)

theorem bare_cells (n : Nat) (e : Int) : VCells (bareCells n e) (bareV n e) := by
  have hs := zeroCells_size
  unfold bareCells
  refine ⟨by simp [hs], ?_, fun k hk => ?_, fun k hk => ?_, ?_⟩
  · rw [set_get (by simp [hs]), if_neg (by decide), set_get (by omega), if_pos rfl]; rfl
  · rw [set_get (by simp [hs]), if_neg (by omega), set_get (by omega), if_neg (by omega), zeroCells_at _ (by omega)]
    unfold kindAt
    rw [if_neg (by omega), if_pos (by omega)]
    rfl
  · rw [set_get (by simp [hs]), if_neg (by omega), set_get (by omega), if_neg (by omega), zeroCells_at _ (by omega)]
    unfold kindAt
    rw [if_neg (by omega), if_neg (by omega)]
    rfl
  · rw [set_get (by simp [hs]), if_pos rfl]; rfl

theorem places80 : (Try.prog.underlying 80).bind (fun d => match d with
    | .struct fs => fs.toList.mapM (fun f => (Try.prog.info? f.type).map fun i => (f.offset, i.size))
    | _ => none) = some [(0, 1), (1, 16384), (16385, 64), (16449, 1)] := by kernel_rfl

theorem build80 (n : Nat) (e : Int) : Try.prog.built 80 [(0, .int .i64 (n : Int)), (3, .int .u64 e)] = some (bareCells n e) := by
  have hs := zeroCells_size
  have hi : Try.prog.info? 80 = some Try.t80 := by kernel_rfl
  have hz : Try.t80.zero = some (.agg zeroCells) := by kernel_rfl
  have hp := places80
  rw [Try.underlying80] at hp
  simp only [Option.bind_some] at hp
  unfold Program.built
  rw [hi]
  simp only [Try.underlying80, hz]
  simp only [hp]
  unfold bareCells
  generalize zeroCells = Z at *
  simp [Instr.fill, Value.cells, hs]

theorem Only.keep {B g : Nat} {u u' : World} (h : Only u u' g) (hg : g < B) : Keep B u u' :=
  ⟨h.os, h.tape, h.output, h.size, fun i h1 h2 => h.block i h2 (by simp; omega)⟩

/-- what stands between two slots of New's walk -/
structure NewJ (w : World) (n : Nat) (e : Int) (done : List Nat) (u : World) : Prop where
  view : ViewAt u (w.heap.size + 1 + 1) { self := n, own := fun j => if j ∈ done then (n : Int) else if j < 16384 then -1 else 0, ep := fun j => if j = n then e else 0, cur := e }
  selfBox : u.heap[w.heap.size]? = some (.cells #[.int .i64 n] 3 (0, 0))
  ptrBox : u.heap[w.heap.size + 1 + 1 + 1]? = some (.cells #[.pointer (some ⟨w.heap.size + 1 + 1, 0, none⟩)] 30 (0, 0))
  below : Below w.heap.size w u

theorem NewJ.stable {w : World} {n : Nat} {e : Int} {done : List Nat} {B : Nat} (hB : w.heap.size + 1 + 1 + 1 < B) {u u' : World} (h : NewJ w n e done u) (hb : Below B u u') : NewJ w n e done u' :=
  ⟨h.view.belowN hb (by omega), (hb.block _ (by omega)).trans h.selfBox, (hb.block _ (by omega)).trans h.ptrBox, h.below.trans (hb.mono (by omega))⟩

theorem newj_step {w : World} {n : Nat} {e : Int} (hn : n < 64) (c : Nat → Nat) {B : Nat} (hB : w.heap.size + 1 + 1 + 1 < B) :
    StepOk 45 #[.pointer (some ⟨w.heap.size, 0, none⟩), .pointer (some ⟨w.heap.size + 1 + 1 + 1, 0, none⟩)] c B (NewJ w n e) := by
  intro done k u hj _ hk hu
  have d3 : u.cell? ⟨w.heap.size, 0, none⟩ = some (.int .i64 n) := by rw [cell_of_row _ _ _ _ _ _ hj.selfBox]; rfl
  have d6 : u.cell? ⟨w.heap.size + 1 + 1 + 1, 0, none⟩ = some (.pointer (some ⟨w.heap.size + 1 + 1, 0, none⟩)) := by rw [cell_of_row _ _ _ _ _ _ hj.ptrBox]; rfl
  refine (newc_any hj.view n k hn hk d3 d6).mono ?_
  rintro e' u' ⟨rfl, hv, ho⟩
  refine ⟨rfl, ⟨?_, (ho.block _ (by omega) (by simp; omega)).trans hj.selfBox, (ho.block _ (by omega) (by simp)).trans hj.ptrBox, ho.new hj.below (by omega) (by omega)⟩, ho.keep (by omega)⟩
  unfold VS.setOwn at hv
  have e1 : (fun j => if j = k then (n : Int) else if j ∈ done then (n : Int) else if j < 16384 then -1 else 0) = fun j => if j ∈ done ++ [k] then (n : Int) else if j < 16384 then -1 else 0 := by
    funext j
    by_cases h1 : j = k
    · subst h1; simp
    · simp [h1]
  rw [← e1]
  exact hv

/-- a new view -/
def newV (n : Nat) (c : Nat → Nat) (e : Int) : VS := { self := n, own := fun j => if j ∈ slotsTo c 16384 then (n : Int) else if j < 16384 then -1 else 0, ep := fun j => if j = n then e else 0, cur := e }

theorem wpList_build_some {P : Program} {ops : Array Oper} {rest : List Oper} {o : Oper} {a : Act} {w : World} {Q : Exit → Act → World → Prop} (hg : o.guard = none) (t : TypeId) (parts : Array (Nat × Operand)) (ho : o.op = .build t parts)
    (vs : List (Nat × Value)) (hv : (parts.map fun (i, x) => (i, a.eval x)).toList = vs) (cells : Array Value) (hc : P.built t vs = some cells)
    (h : wpList P ops Q rest (a.put o.dst (.agg cells)) w) : wpList P ops Q (o :: rest) a w := by
  subst hv
  refine wpList_build hg t parts ho (by rw [hc]; rfl) ?_
  rw [hc]
  exact h

set_option maxRecDepth 100000 in
set_option maxHeartbeats 1600000 in
theorem new_ok (w : World) {bs : Array Value} {c : Nat → Nat} (hb : BitsOf bs c) (n : Nat) (e : Int) (hn : n < 64) (he0 : 0 ≤ e) (he : e ≤ 4611686018427387904) :
    Calls Try.prog 28 #[.int .i64 n, .agg bs, .int .u64 e] w fun e' w' => e' = .returned (.tuple #[.pointer (some ⟨w.heap.size + 1 + 1, 0, none⟩), .int .i64 0]) ∧ Below w.heap.size w w' ∧ ViewAt w' (w.heap.size + 1 + 1) (newV n c e) := by
  have HN := Lib.hid fun (u : World) => node_any n u
  have ht : inNode n = true := decide_eq_true (by omega)
  rw [ht] at HN
  have HBits := Lib.hid hb
  have HB := Lib.hid (build80 n e)
  have HV := Lib.hid (bare_cells n e)
  generalize bareCells n e = C at *
  clear ht hb
  go_enter Try.func28, Try.ntmps28
  go_wp2_with fail
  refine (HN.out _).mono ?_
  rintro e' w' ⟨rfl, rfl⟩
  go_wp2_with (with_reducible refine wpList_build_some rfl 80 #[(0, .tmp 17), (3, .tmp 18)] rfl [(0, .int .i64 (n : Int)), (3, .int .u64 e)] ?b1 C HB.out ?_)
  have hb4 : Below w.heap.size w ((((w.alloc (.cells #[.int .i64 n] 3)).alloc (.cells bs 24)).alloc (.cells C 80)).alloc (.cells #[.pointer (some ⟨w.heap.size + 1 + 1, 0, none⟩)] 30)) := (((((Below.refl _ _).alloc (Nat.le_refl _) _).alloc (by simp) _).alloc (by simp; omega) _).alloc (by simp; omega) _)
  have hx3 : ((((w.alloc (.cells #[.int .i64 n] 3)).alloc (.cells bs 24)).alloc (.cells C 80)).alloc (.cells #[.pointer (some ⟨w.heap.size + 1 + 1, 0, none⟩)] 30)).heap[w.heap.size]? = some (.cells #[.int .i64 n] 3 (0, 0)) := by
    rw [Below.heap_alloc _ _ _ (by simp; omega), Below.heap_alloc _ _ _ (by simp; omega), Below.heap_alloc _ _ _ (by simp)]
    exact heap_alloc_new w _
  have hx4 : ((((w.alloc (.cells #[.int .i64 n] 3)).alloc (.cells bs 24)).alloc (.cells C 80)).alloc (.cells #[.pointer (some ⟨w.heap.size + 1 + 1, 0, none⟩)] 30)).heap[w.heap.size + 1]? = some (.cells bs 24 (0, 0)) := by
    rw [Below.heap_alloc _ _ _ (by simp), Below.heap_alloc _ _ _ (by simp)]
    have := heap_alloc_new (w.alloc (.cells #[.int .i64 n] 3)) (.cells bs 24)
    simpa using this
  have hx5 : ViewAt ((((w.alloc (.cells #[.int .i64 n] 3)).alloc (.cells bs 24)).alloc (.cells C 80)).alloc (.cells #[.pointer (some ⟨w.heap.size + 1 + 1, 0, none⟩)] 30)) (w.heap.size + 1 + 1) (bareV n e) := by
    refine ⟨C, ?_, HV.out⟩
    rw [Below.heap_alloc _ _ _ (by simp)]
    have := heap_alloc_new ((w.alloc (.cells #[.int .i64 n] 3)).alloc (.cells bs 24)) (.cells C 80)
    simpa using this
  have hx6 : ((((w.alloc (.cells #[.int .i64 n] 3)).alloc (.cells bs 24)).alloc (.cells C 80)).alloc (.cells #[.pointer (some ⟨w.heap.size + 1 + 1, 0, none⟩)] 30)).heap[w.heap.size + 1 + 1 + 1]? = some (.cells #[.pointer (some ⟨w.heap.size + 1 + 1, 0, none⟩)] 30 (0, 0)) := by
    have := heap_alloc_new (((w.alloc (.cells #[.int .i64 n] 3)).alloc (.cells bs 24)).alloc (.cells C 80)) (.cells #[.pointer (some ⟨w.heap.size + 1 + 1, 0, none⟩)] 30)
    simpa using this
  generalize (((w.alloc (.cells #[.int .i64 n] 3)).alloc (.cells bs 24)).alloc (.cells C 80)).alloc (.cells #[.pointer (some ⟨w.heap.size + 1 + 1, 0, none⟩)] 30) = wn at *
  have HB4 := Lib.hid hb4
  have HX3 := Lib.hid hx3
  have HX4 := Lib.hid hx4
  have HX5 := Lib.hid hx5
  have HX6 := Lib.hid hx6
  have hgl := hx5.lt
  have d3 : wn.cell? ⟨w.heap.size, 0, none⟩ = some (.int .i64 n) := by rw [cell_of_row _ _ _ _ _ _ hx3]; rfl
  have d6 : wn.cell? ⟨w.heap.size + 1 + 1 + 1, 0, none⟩ = some (.pointer (some ⟨w.heap.size + 1 + 1, 0, none⟩)) := by rw [cell_of_row _ _ _ _ _ _ hx6]; rfl
  have hw3 : w.heap.size + 1 + 1 + 1 < wn.heap.size := block_lt_of_cell d6
  have d5 := hx5.ep n hn
  have z5 := hx5.free (16385 + n)
  have hni : (0 : Int) ≤ (n : Int) ∧ (n : Int) < 64 := by omega
  clear hb4 hx3 hx4 hx5 hx6
  go_region
  all_goals go_wp2_with fail
  go_loopw [27] (fun i wr => ∃ k : Nat, k ≤ 16384 ∧ i = .int .i64 k ∧ ViewAt wr (w.heap.size + 1 + 1) { self := n, own := fun j => if j < k then -1 else 0, ep := fun j => if j = n then e else 0, cur := e } ∧ Only wn wr (w.heap.size + 1 + 1)) (fun i _ => 16384 - (intOf i).toNat)
  case atStart =>
    refine ⟨0, Nat.zero_le _, rfl, ?_, (Only.setCell _ _ _ _).drew⟩
    have := (HX5.out.setEp n hn e).drew
    simpa [bareV, VS.setEp] using this
  case round =>
    obtain ⟨k, hk, rfl, hv, ho⟩ := hrel
    have hy6 : wr.heap[w.heap.size + 1 + 1 + 1]? = some (.cells #[.pointer (some ⟨w.heap.size + 1 + 1, 0, none⟩)] 30 (0, 0)) := (ho.block _ (by have := block_lt_of_cell d6; exact this) (by simp)).trans HX6.out
    have hy4 : wr.heap[w.heap.size + 1]? = some (.cells bs 24 (0, 0)) := (ho.block _ (by omega) (by simp)).trans HX4.out
    have f6 : wr.cell? ⟨w.heap.size + 1 + 1 + 1, 0, none⟩ = some (.pointer (some ⟨w.heap.size + 1 + 1, 0, none⟩)) := by rw [cell_of_row _ _ _ _ _ _ hy6]; rfl
    have HYV := Lib.hid hv
    have HO := Lib.hid ho
    have HY4 := Lib.hid hy4
    clear d3 d5 d6 z5 hy6 hy4
    by_cases hlt : k < 16384
    · have c1 := hv.own k hlt
      have z1 := hv.free (1 + k)
      simp only [Nat.lt_irrefl, if_false] at c1
      have hki : (0 : Int) ≤ (k : Int) ∧ (k : Int) < 16384 := by omega
      clear hv ho
      go_wp2
      go_roundw
      case rel =>
        refine ⟨k + 1, by omega, by go_num, ?_, HO.out.trans (Only.setCell _ _ _ _)⟩
        have := HYV.out.setOwn k hlt (-1)
        unfold VS.setOwn at this
        have e : (fun j => if j = k then (-1 : Int) else if j < k then -1 else 0) = fun j => if j < k + 1 then -1 else 0 := by
          funext j
          by_cases h1 : j = k
          · subst h1; simp
          · by_cases h2 : j < k
            · simp [h1, h2, Nat.lt_succ_of_lt h2]
            · rw [if_neg h1, if_neg h2, if_neg (by omega)]
        rw [e] at this
        exact this
      case measure => simp [intOf]; omega
    · have hk2 : k = 16384 := by omega
      subst hk2
      have HS24 : Hid ((Try.prog.info? 24).map (·.size) = some bs.size) := by rw [HBits.out.size]; exact size24
      have hmf : ∀ (fn : Fn) (first cap : Array Value) (u : World), (Instr.makeFunc fn first cap).run Try.prog u = .ok (.func fn first cap) u := fun _ _ _ _ => rfl
      clear hv ho
      go_wp2_with (with_reducible refine wpList_load_row rfl 24 (.tmp 4) rfl (w.heap.size + 1) rfl 24 bs (0, 0) _ HY4.out Try.underlying24 rfl HS24.out ?_)
      have hsz : wn.heap.size ≤ wr.heap.size := HO.out.size
      have hy3 : wr.heap[w.heap.size]? = some (.cells #[.int .i64 n] 3 (0, 0)) := (HO.out.block _ (by omega) (by simp; omega)).trans HX3.out
      have hy6 : wr.heap[w.heap.size + 1 + 1 + 1]? = some (.cells #[.pointer (some ⟨w.heap.size + 1 + 1, 0, none⟩)] 30 (0, 0)) := (HO.out.block _ (by omega) (by simp)).trans HX6.out
      have hbw : Below w.heap.size w wr := HO.out.new HB4.out (by omega) (by omega)
      refine (each2_any 45 (fun a u => Try.call45 a u) _ _ HBits.out (NewJ w n e) wr (fun done u u' h hb => h.stable (by omega) hb) ⟨by simpa using HYV.out, hy3, hy6, hbw⟩ (newj_step hn c (by omega))).mono ?_
      rintro e' w' ⟨rfl, hj, _⟩
      have HJ := Lib.hid hj
      have d7 : w'.cell? ⟨w.heap.size + 1 + 1 + 1, 0, none⟩ = some (.pointer (some ⟨w.heap.size + 1 + 1, 0, none⟩)) := by rw [cell_of_row _ _ _ _ _ _ hj.ptrBox]; rfl
      clear hj hy3 hy6 hbw
      go_wp2
      go_ret2
      exact ⟨rfl, HJ.out.below, HJ.out.view⟩

set_option maxRecDepth 100000 in
theorem new_no (w : World) (bs : Array Value) (n : Int) (e : Int) (hn : inNode n = false) :
    Calls Try.prog 28 #[.int .i64 n, .agg bs, .int .u64 e] w fun e' w' => e' = .returned (.tuple #[.pointer none, .int .i64 150]) ∧ Below w.heap.size w w' := by
  have HN := Lib.hid fun (u : World) => node_any n u
  rw [hn] at HN
  clear hn
  go_enter Try.func28, Try.ntmps28
  go_wp2_with fail
  refine (HN.out _).mono ?_
  rintro e' w' ⟨rfl, rfl⟩
  go_wp2
  go_ret2
  exact ⟨rfl, (((Below.refl _ _).alloc (Nat.le_refl _) _).alloc (by simp) _)⟩

set_option maxRecDepth 100000 in
theorem new_big (w : World) (bs : Array Value) (n : Int) (e : Int) (hn : inNode n = true) (he : 4611686018427387904 < e) :
    Calls Try.prog 28 #[.int .i64 n, .agg bs, .int .u64 e] w fun e' w' => e' = .returned (.tuple #[.pointer none, .int .i64 1]) ∧ Below w.heap.size w w' := by
  have HN := Lib.hid fun (u : World) => node_any n u
  rw [hn] at HN
  clear hn
  go_enter Try.func28, Try.ntmps28
  go_wp2_with fail
  refine (HN.out _).mono ?_
  rintro e' w' ⟨rfl, rfl⟩
  go_wp2
  go_ret2
  exact ⟨rfl, (((Below.refl _ _).alloc (Nat.le_refl _) _).alloc (by simp) _)⟩
end Go.Proofs.Ytlccbgjlinlioaa
