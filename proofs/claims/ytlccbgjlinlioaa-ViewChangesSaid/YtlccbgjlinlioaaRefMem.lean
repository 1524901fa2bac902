/- The document's view in memory: a row of 64 nodes of 257 cells. -/
import Derived.Test.YtlccbgjlinlioaaAlive
import Derived.Laws.OwnMore
import Derived.Laws.ResultCell
namespace Go.Proofs.Ytlccbgjlinlioaa
open Go.RowKit

/-- each node's epoch and words -/
structure NS where
  ep : Nat → Int
  wd : Nat → Nat → Nat
def NS.of (s : VS) : NS := ⟨s.ep, fun n => wordsOf (s.owns n)⟩
def NS.setEp (N : NS) (n : Nat) (e : Int) : NS := { N with ep := fun j => if j = n then e else N.ep j }
def NS.setW (N : NS) (n i x : Nat) : NS := { N with wd := fun j k => if j = n ∧ k = i then x else N.wd j k }
def NS.cell (N : NS) (n r : Nat) : Value := if r = 0 then .int .u64 (N.ep n) else .int .u64 (N.wd n (r - 1) : Int)
def nodesList (N : NS) : List Value := (List.range 16448).map fun j => N.cell (j / 257) (j % 257)
theorem nodesList_len (N : NS) : (nodesList N).length = 16448 := by simp [nodesList]
theorem nodesList_at (N : NS) (j : Nat) (hj : j < 16448) : (nodesList N)[j]? = some (N.cell (j / 257) (j % 257)) := by
  unfold nodesList
  rw [List.getElem?_map, List.getElem?_range hj]
  rfl
theorem nodesList_get (N : NS) (n r : Nat) (hn : n < 64) (hr : r < 257) : (nodesList N)[n * 257 + r]? = some (N.cell n r) := by
  rw [nodesList_at N _ (by omega), show (n * 257 + r) / 257 = n by omega, show (n * 257 + r) % 257 = r by omega]
theorem NS.ext {N M : NS} (h1 : ∀ n, n < 64 → N.ep n = M.ep n) (h2 : ∀ n i, n < 64 → i < 256 → N.wd n i = M.wd n i) : nodesList N = nodesList M := by
  apply List.ext_getElem?
  intro j
  by_cases hj : j < 16448
  · rw [nodesList_at N j hj, nodesList_at M j hj]
    unfold NS.cell
    split
    · rw [h1 _ (by omega)]
    · rw [h2 _ _ (by omega) (by omega)]
  · rw [List.getElem?_eq_none (by rw [nodesList_len]; omega), List.getElem?_eq_none (by rw [nodesList_len]; omega)]
theorem nodesList_setEp (N : NS) (n : Nat) (e : Int) (hn : n < 64) : (nodesList N).set (n * 257) (.int .u64 e) = nodesList (N.setEp n e) := by
  apply List.ext_getElem?
  intro j
  rw [List.getElem?_set]
  by_cases hj : j < 16448
  · rw [nodesList_at N j hj, nodesList_at (N.setEp n e) j hj, nodesList_len]
    unfold NS.cell NS.setEp
    by_cases h : n * 257 = j
    · subst h
      simp [show n * 257 / 257 = n by omega, show n * 257 % 257 = 0 by omega, show n * 257 < 16448 by omega]
    · rw [if_neg h]
      by_cases hr : j % 257 = 0
      · have : ¬ j / 257 = n := by omega
        simp [hr, this]
      · simp [hr]
  · rw [List.getElem?_eq_none (l := nodesList (N.setEp n e)) (by rw [nodesList_len]; omega), List.getElem?_eq_none (l := nodesList N) (by rw [nodesList_len]; omega), if_neg (by omega)]
theorem nodesList_setW (N : NS) (n i x : Nat) (hn : n < 64) (hi : i < 256) : (nodesList N).set (n * 257 + 1 + i) (.int .u64 (x : Int)) = nodesList (N.setW n i x) := by
  apply List.ext_getElem?
  intro j
  rw [List.getElem?_set]
  by_cases hj : j < 16448
  · rw [nodesList_at N j hj, nodesList_at (N.setW n i x) j hj, nodesList_len]
    unfold NS.cell NS.setW
    by_cases h : n * 257 + 1 + i = j
    · subst h
      simp [show (n * 257 + 1 + i) / 257 = n by omega, show (n * 257 + 1 + i) % 257 = i + 1 by omega, show n * 257 + 1 + i < 16448 by omega]
    · rw [if_neg h]
      by_cases hr : j % 257 = 0
      · simp [hr]
      · have : ¬ (j / 257 = n ∧ j % 257 - 1 = i) := by omega
        simp [hr, this]
  · rw [List.getElem?_eq_none (l := nodesList (N.setW n i x)) (by rw [nodesList_len]; omega), List.getElem?_eq_none (l := nodesList N) (by rw [nodesList_len]; omega), if_neg (by omega)]

/-- the row of nodes lies in block g -/
def RN (u : World) (B g cap : Nat) (N : NS) : Prop := u.ownsRow B 61 257 (.slice (some ⟨g, 0, none⟩) 64 cap) 64 (nodesList N)

theorem RN.lt {u : World} {B g cap : Nat} {N : NS} (h : RN u B g cap N) : B ≤ g ∧ g < u.heap.size := World.ownsRow.lt h g rfl
theorem RN.cell {u : World} {B g cap : Nat} {N : NS} (h : RN u B g cap N) (n r : Nat) (hn : n < 64) (hr : r < 257) : u.cell? ⟨g, n * 257 + r, none⟩ = some (N.cell n r) := by
  rw [World.ownsRow.cellAt h (n * 257 + r) (by omega), nodesList_get N n r hn hr]
theorem RN.ep {u : World} {B g cap : Nat} {N : NS} (h : RN u B g cap N) (n : Nat) (hn : n < 64) : u.cell? ⟨g, n * 257, none⟩ = some (.int .u64 (N.ep n)) := by
  have := h.cell n 0 hn (by omega)
  rw [Nat.add_zero] at this
  rw [this]
  rfl
theorem RN.word {u : World} {B g cap : Nat} {N : NS} (h : RN u B g cap N) (n i : Nat) (hn : n < 64) (hi : i < 256) : u.cell? ⟨g, n * 257 + 1 + i, none⟩ = some (.int .u64 (N.wd n i : Int)) := by
  have := h.cell n (1 + i) hn (by omega)
  rw [← Nat.add_assoc] at this
  rw [this]
  unfold NS.cell
  rw [if_neg (by omega), show 1 + i - 1 = i by omega]
theorem RN.free {u : World} {B g cap : Nat} {N : NS} (h : RN u B g cap N) (j : Nat) : u.frozen? ⟨g, j, none⟩ = false := World.ownsRow.frozenAt h j
theorem RN.claims {u : World} {B g cap : Nat} {N : NS} (h : RN u B g cap N) (n : Nat) (hn : n < 64) : u.rangeAt g (n * 257 + 1) (wordsList (N.wd n)) := fun j v hv => by
  have hj : j < 256 := by
    rw [← wordsList_len (N.wd n)]
    exact (List.getElem?_eq_some_iff.1 hv).1
  rw [wordsList_get _ j hj] at hv
  cases hv
  exact h.word n j hn hj
theorem RN.setEp {u : World} {B g cap : Nat} {N : NS} (h : RN u B g cap N) (n : Nat) (hn : n < 64) (e : Int) : RN (u.setCell ⟨g, n * 257, none⟩ (.int .u64 e)) B g cap (N.setEp n e) := by
  have := (World.ownsRow.stored h (n * 257) (.int .u64 e)).1
  rw [nodesList_setEp N n e hn] at this
  exact this
theorem RN.setW {u : World} {B g cap : Nat} {N : NS} (h : RN u B g cap N) (n i x : Nat) (hn : n < 64) (hi : i < 256) : RN (u.setCell ⟨g, n * 257 + 1 + i, none⟩ (.int .u64 (x : Int))) B g cap (N.setW n i x) := by
  have := (World.ownsRow.stored h (n * 257 + 1 + i) (.int .u64 (x : Int))).1
  rw [nodesList_setW N n i x hn hi] at this
  exact this
theorem RN.keep {u u' : World} {B g cap : Nat} {N : NS} (h : RN u B g cap N) (hb : u'.heap[g]? = u.heap[g]?) : RN u' B g cap N := by
  refine ⟨h.1, ?_⟩
  rcases h.2 with hn | ⟨g', cap', cur, e, hg, hh, rest⟩
  · exact .inl hn
  · have e2 : g' = g := by
      simp only [Value.slice.injEq, Option.some.injEq, Addr.mk.injEq] at e
      exact e.1.1.symm
    subst e2
    exact .inr ⟨g', cap', cur, e, hg, hb.trans hh, rest⟩
theorem RN.below {u u' : World} {B g cap : Nat} {N : NS} (h : RN u B g cap N) (hb : Below u.heap.size u u') : RN u' B g cap N := h.keep (hb.block g h.lt.2)
theorem RN.belowN {u u' : World} {B g cap n : Nat} {N : NS} (h : RN u B g cap N) (hb : Below n u u') (hg : g < n) : RN u' B g cap N := h.keep (hb.block g hg)
theorem RN.only {u u' : World} {B g cap g' : Nat} {N : NS} (h : RN u B g cap N) (hb : Only u u' g') (hne : g ≠ g') : RN u' B g cap N := h.keep (hb.block g h.lt.2 (by simpa using hne))
theorem RN.drew {u : World} {B g cap : Nat} {N : NS} (h : RN u B g cap N) : RN u.drew B g cap N := h.keep rfl
theorem RN.ofEq {u : World} {B g cap : Nat} {N M : NS} (h : RN u B g cap N) (h1 : ∀ n, n < 64 → N.ep n = M.ep n) (h2 : ∀ n i, n < 64 → i < 256 → N.wd n i = M.wd n i) : RN u B g cap M := by
  unfold RN at *
  rw [← NS.ext h1 h2]
  exact h
theorem RN.mono {u : World} {B B' g cap : Nat} {N : NS} (h : RN u B g cap N) (hB : B' ≤ B) : RN u B' g cap N := by
  refine ⟨h.1, ?_⟩
  rcases h.2 with hn | ⟨g', cap', cur, e, hg, rest⟩
  · exact .inl hn
  · exact .inr ⟨g', cap', cur, e, by omega, rest⟩

/-- the value of a view of the document's -/
def refVal (self : Nat) (g cap : Nat) (cur : Int) : Value := .agg #[.int .i64 (self : Int), .slice (some ⟨g, 0, none⟩) 64 cap, .int .u64 cur]
/-- v is the document's view s, its nodes in a block from B on -/
def RefAt (u : World) (B : Nat) (v : Value) (s : VS) : Prop := ∃ g cap, v = refVal s.self g cap s.cur ∧ RN u B g cap (NS.of s)
theorem RefAt.below {u u' : World} {B : Nat} {v : Value} {s : VS} (h : RefAt u B v s) (hb : Below u.heap.size u u') : RefAt u' B v s := by
  obtain ⟨g, cap, rfl, hr⟩ := h
  exact ⟨g, cap, rfl, hr.below hb⟩

theorem Only.fresh {w u u' : World} {g b : Nat} (h : Only w u g) (k : Only u u' b) (hb : w.heap.size ≤ b) : Only w u' g :=
  ⟨k.os.trans h.os, k.tape.trans h.tape, k.output.trans h.output, Nat.le_trans h.size k.size, fun i hi hne => (k.block i (Nat.lt_of_lt_of_le hi h.size) (by simp; omega)).trans (h.block i hi hne)⟩
theorem Only.then {w u u' : World} {g : Nat} (h : Only w u g) (k : Only u u' g) : Only w u' g := h.trans k
theorem Only.up {w u u' : World} {g : Nat} (h : Only w u g) (k : Below u.heap.size u u') : Only w u' g := h.trans (below_only k g)

/-- a box of three cells -/
structure Box (w : World) (g : Nat) (x y z : Value) : Prop where
  heap : w.heap[g]? = some (.cells #[x, y, z] 33 (0, 0))
theorem Box.cell0 {w : World} {g : Nat} {x y z : Value} (h : Box w g x y z) : w.cell? ⟨g, 0, none⟩ = some x := by rw [cell_of_row w g 0 _ 33 (0, 0) h.heap]; rfl
theorem Box.cell1 {w : World} {g : Nat} {x y z : Value} (h : Box w g x y z) : w.cell? ⟨g, 1, none⟩ = some y := by rw [cell_of_row w g 1 _ 33 (0, 0) h.heap]; rfl
theorem Box.cell2 {w : World} {g : Nat} {x y z : Value} (h : Box w g x y z) : w.cell? ⟨g, 2, none⟩ = some z := by rw [cell_of_row w g 2 _ 33 (0, 0) h.heap]; rfl
theorem Box.free {w : World} {g : Nat} {x y z : Value} (h : Box w g x y z) (i : Nat) : w.frozen? ⟨g, i, none⟩ = false := frozen_of_row w g i _ 33 h.heap
theorem Box.lt {w : World} {g : Nat} {x y z : Value} (h : Box w g x y z) : g < w.heap.size := by have := block_lt_of_cell h.cell0; exact this
theorem Box.below {w w' : World} {g n : Nat} {x y z : Value} (h : Box w g x y z) (hb : Below n w w') (hg : g < n) : Box w' g x y z := ⟨(hb.block g hg).trans h.heap⟩
theorem Box.only {w w' : World} {g g' : Nat} {x y z : Value} (h : Box w g x y z) (hb : Only w w' g') (hne : g ≠ g') : Box w' g x y z := ⟨(hb.block g h.lt (by simpa using hne)).trans h.heap⟩
theorem Box.set {w : World} {g : Nat} {x y z : Value} (h : Box w g x y z) (x' y' z' : Value) : Box (((w.setCell ⟨g, 0, none⟩ x').setCell ⟨g, 1, none⟩ y').setCell ⟨g, 2, none⟩ z') g x' y' z' := by
  have h0 := heap_setCell_same w g 0 _ 33 x' h.heap
  have h1 := heap_setCell_same _ g 1 _ 33 y' h0
  have h2 := heap_setCell_same _ g 2 _ 33 z' h1
  exact ⟨h2⟩
theorem Box.set1 {w : World} {g : Nat} {x y z : Value} (h : Box w g x y z) (y' : Value) : Box (w.setCell ⟨g, 1, none⟩ y') g x y' z := ⟨heap_setCell_same w g 1 _ 33 y' h.heap⟩
theorem Box.set2 {w : World} {g : Nat} {x y z : Value} (h : Box w g x y z) (z' : Value) : Box (w.setCell ⟨g, 2, none⟩ z') g x y z' := ⟨heap_setCell_same w g 2 _ 33 z' h.heap⟩
theorem Box.onlySet (w : World) (g : Nat) (x' y' z' : Value) : Only w (((w.setCell ⟨g, 0, none⟩ x').setCell ⟨g, 1, none⟩ y').setCell ⟨g, 2, none⟩ z') g :=
  ((Only.setCell _ _ _ _).trans (Only.setCell _ _ _ _)).trans (Only.setCell _ _ _ _)
theorem Box.drew {w : World} {g : Nat} {x y z : Value} (h : Box w g x y z) : Box w.drew g x y z := ⟨h.heap⟩
theorem box1 (w : World) (x y z : Value) : Box (w.alloc (.cells #[x, y, z] 33)) w.heap.size x y z := ⟨heap_alloc_new w _⟩
theorem box2 (w : World) (c : Obj) (x y z : Value) : Box ((w.alloc c).alloc (.cells #[x, y, z] 33)) (w.heap.size + 1) x y z := ⟨by have := heap_alloc_new (w.alloc c) (.cells #[x, y, z] 33); simpa using this⟩
theorem below2 (w : World) (c c' : Obj) : Below w.heap.size w ((w.alloc c).alloc c') := ((Below.refl _ _).alloc (Nat.le_refl _) _).alloc (by simp) _

theorem size33 : (Try.prog.info? 33).map (·.size) = some 3 := by kernel_rfl
theorem Box.load {w : World} {g : Nat} {x y z : Value} (h : Box w g x y z) : (loadVar 33 ⟨g, 0, none⟩).run Try.prog w = .ok (.agg #[x, y, z]) w :=
  run_loadVar_row (P := Try.prog) w g 33 33 #[x, y, z] (0, 0) _ h.heap Try.underlying33 rfl size33
theorem results_box1 {fn : Func} {p : Tmp} (hf : fn.results = #[.cell p 33]) {w : World} {g : Nat} {x y z : Value} (h : Box w g x y z) (tmps : Array Value) (hp : tmps.getD p undef = .pointer (some ⟨g, 0, none⟩)) :
    (results fn tmps).run Try.prog w = .ok (.agg #[x, y, z]) w := results_cell1 hf tmps w _ hp _ h.load
theorem results_box2 {fn : Func} {p q : Tmp} (hf : fn.results = #[.cell p 33, .tmp q]) {w : World} {g : Nat} {x y z : Value} (h : Box w g x y z) (tmps : Array Value) (hp : tmps.getD p undef = .pointer (some ⟨g, 0, none⟩)) :
    (results fn tmps).run Try.prog w = .ok (.tuple #[.agg #[x, y, z], tmps.getD q undef]) w := by
  rw [results_cell_tmp hf, hp]
  simp only [asAddr, Sem.run_pure, Result.andThen_ok, h.load]
theorem results_box3 {fn : Func} {p q r : Tmp} (hf : fn.results = #[.cell p 33, .tmp q, .tmp r]) {w : World} {g : Nat} {x y z : Value} (h : Box w g x y z) (tmps : Array Value) (hp : tmps.getD p undef = .pointer (some ⟨g, 0, none⟩)) :
    (results fn tmps).run Try.prog w = .ok (.tuple #[.agg #[x, y, z], tmps.getD q undef, tmps.getD r undef]) w := by
  have hl := h.load
  simp only [Array.getD_eq_getD_getElem?] at hp
  simp only [results, hf]
  simp [asAddr, hp, hl]

theorem info61 : Try.prog.info? 61 = some Try.t61 := by kernel_rfl
theorem t61size : Try.t61.size = 257 := by kernel_rfl
theorem t61bytes : Try.t61.bytes = 2056 := by kernel_rfl
theorem under31 : Try.prog.underlying 31 = some (.slice 61) := by kernel_rfl
def zeroNode : Array Value := (.int .u64 0 :: wordsList fun _ => 0).toArray
theorem t61zero : Try.t61.zero = some (.agg zeroNode) := by kernel_rfl
theorem zeroNode_size : zeroNode.size = 257 := by simp [zeroNode, wordsList_len]
theorem zero61 (w : World) : (zeroValue 61).run Try.prog w = .ok (.agg zeroNode) w := by kernel_rfl
theorem size61 : (Try.prog.info? 61).map (·.size) = some 257 := by kernel_rfl
theorem nodes_one (N : NS) : ∀ v ∈ nodesList N, v.oneCell' = true := by
  intro v hv
  unfold nodesList at hv
  simp only [List.mem_map] at hv
  obtain ⟨j, _, rfl⟩ := hv
  unfold NS.cell
  split <;> rfl
end Go.Proofs.Ytlccbgjlinlioaa
