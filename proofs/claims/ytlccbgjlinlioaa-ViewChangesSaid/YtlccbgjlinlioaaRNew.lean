/- The document's New. -/
import Derived.Test.YtlccbgjlinlioaaRPlain
import Derived.Test.YtlccbgjlinlioaaRTell
namespace Go.Proofs.Ytlccbgjlinlioaa
open Go.RowKit

/-- no epochs, no slots -/
def NS.none : NS := ⟨fun _ => 0, fun _ _ => 0⟩
def NS.setNode (N : NS) (n : Nat) (e : Int) (c : Nat → Nat) : NS := ⟨fun j => if j = n then e else N.ep j, fun j i => if j = n then c i else N.wd j i⟩

theorem zeroNode_at (j : Nat) (hj : j < 257) : zeroNode[j]? = some (.int .u64 0) := by
  unfold zeroNode
  rw [List.getElem?_toArray]
  cases j with
  | zero => rfl
  | succ j =>
    rw [List.getElem?_cons_succ, wordsList_get _ j (by omega)]
    rfl
theorem made_nodes : (madeCells zeroNode 16448).toList = nodesList NS.none := by
  apply List.ext_getElem?
  intro j
  have hs := zeroNode_size
  by_cases hj : j < 16448
  · rw [nodesList_at _ j hj]
    have h1 : zeroNode[j % zeroNode.size]! = .int .u64 0 := by
      have h2 := zeroNode_at (j % zeroNode.size) (by rw [hs]; omega)
      rw [getElem!_def, h2]
    have h3 : (madeCells zeroNode 16448).toList[j]? = some (zeroNode[j % zeroNode.size]!) := by
      unfold madeCells
      simp [hj]
    rw [h3, h1]
    unfold NS.cell NS.none
    split <;> rfl
  · rw [List.getElem?_eq_none (by simp [size_madeCells]; omega), List.getElem?_eq_none (by rw [nodesList_len]; omega)]

theorem wp_make31 {o : Oper} {a : Act} {w : World} {K : Act → World → Prop} {Q : Exit → Act → World → Prop} (d : Tmp) (hd : o.dst = some d) (x y : Operand) (ho : o.op = .makeSlice 31 x y) (hx : a.eval x = .int .i64 64) (hy : a.eval y = .int .i64 64)
    (h : ∀ w', RN w' w.heap.size w.heap.size 64 NS.none → w.grownBy w' none → K { tmps := a.tmps.setIfInBounds d (.slice (some ⟨w.heap.size, 0, none⟩) 64 64), defers := a.defers } w') : o.wp Try.prog a w K Q := by
  obtain ⟨w', hr, hown, hg⟩ := run_makeSlice_full (P := Try.prog) w w.heap.size 31 61 Try.t61 (.agg zeroNode) 257 under31 info61 t61zero t61size .i64 .i64 64 (by omega) (by rw [t61bytes]; omega) (by simp only [maxLen]; omega) (Nat.le_refl _)
  have hr2 : (Instr.makeSlice 31 (.int .i64 64) (.int .i64 64)).run Try.prog w = .ok (.slice (some ⟨w.heap.size, 0, none⟩) 64 64) w' := hr
  unfold Oper.wp execOp
  simp only [ho, hx, hy, Sem.run_bind, hr2, Result.andThen_ok]
  have hrn : RN w' w.heap.size w.heap.size 64 NS.none := by
    unfold RN
    rw [← made_nodes]
    exact hown
  show K (a.put o.dst (.slice (some ⟨w.heap.size, 0, none⟩) 64 64)) w'
  rw [hd]
  exact h w' hrn hg

/-- a row with the list vs laid at o -/
def laid (xs : List Value) : Nat → List Value → List Value
  | _, [] => xs
  | o, v :: r => laid (xs.set o v) (o + 1) r
theorem laid_get : ∀ (vs : List Value) (xs : List Value) (o j : Nat), o + vs.length ≤ xs.length → (laid xs o vs)[j]? = if o ≤ j ∧ j < o + vs.length then vs[j - o]? else xs[j]?
  | [], xs, o, j, _ => by
    have h0 : ¬ (o ≤ j ∧ j < o + ([] : List Value).length) := by simp
    rw [if_neg h0]
    rfl
  | v :: r, xs, o, j, h => by
    have h2 : o + 1 + r.length ≤ (xs.set o v).length := by simp at h ⊢; omega
    rw [laid, laid_get r (xs.set o v) (o + 1) j h2]
    simp only [List.length_cons] at h ⊢
    by_cases h1 : o + 1 ≤ j ∧ j < o + 1 + r.length
    · rw [if_pos h1, if_pos (by omega), show j - o = (j - (o + 1)) + 1 by omega, List.getElem?_cons_succ]
    · rw [if_neg h1]
      by_cases hj : o = j
      · subst hj
        rw [if_pos (by omega), List.getElem?_set_self (by omega), Nat.sub_self]
        rfl
      · rw [if_neg (by omega), List.getElem?_set_ne hj]
theorem ownsRow_laid (g cap B : Nat) : ∀ (vs : List Value) (xs : List Value) (o : Nat) (u : World), u.ownsRow B 61 257 (.slice (some ⟨g, 0, none⟩) 64 cap) 64 xs →
    (u.setCells g o vs).ownsRow B 61 257 (.slice (some ⟨g, 0, none⟩) 64 cap) 64 (laid xs o vs) ∧ Only u (u.setCells g o vs) g
  | [], _, _, u, h => ⟨h, Only.refl u g⟩
  | v :: r, xs, o, u, h => by
    obtain ⟨h1, h2⟩ := World.ownsRow.stored h o v
    obtain ⟨h3, h4⟩ := ownsRow_laid g cap B r (xs.set o v) (o + 1) _ h1
    exact ⟨h3, Only.trans h2 h4⟩
theorem RN.setNode {u : World} {B g cap : Nat} {N : NS} (h : RN u B g cap N) (n : Nat) (hn : n < 64) (e : Int) (c : Nat → Nat) : RN (u.setCells g (n * 257) (nodeRow e c)) B g cap (N.setNode n e c) ∧ Only u (u.setCells g (n * 257) (nodeRow e c)) g := by
  obtain ⟨h1, h2⟩ := ownsRow_laid g cap B (nodeRow e c) (nodesList N) (n * 257) u h
  refine ⟨?_, h2⟩
  have hE : laid (nodesList N) (n * 257) (nodeRow e c) = nodesList (N.setNode n e c) := by
    apply List.ext_getElem?
    intro j
    rw [laid_get _ _ _ _ (by rw [nodeRow_len, nodesList_len]; omega), nodeRow_len]
    by_cases hj : j < 16448
    · rw [nodesList_at _ j hj, nodesList_at _ j hj]
      by_cases h3 : n * 257 ≤ j ∧ j < n * 257 + 257
      · rw [if_pos h3]
        have hd : j / 257 = n := by omega
        have hm : j % 257 = j - n * 257 := by omega
        unfold NS.cell NS.setNode
        rw [hd, hm]
        simp only [if_true]
        generalize hx : j - n * 257 = x
        cases x with
        | zero => rfl
        | succ x =>
          unfold nodeRow
          rw [List.getElem?_cons_succ, wordsList_get c x (by omega), if_neg (by omega)]
          rfl
      · rw [if_neg h3]
        have hd : ¬ j / 257 = n := by omega
        unfold NS.cell NS.setNode
        simp [hd]
    · rw [if_neg (by omega), List.getElem?_eq_none (by rw [nodesList_len]; omega), List.getElem?_eq_none (by rw [nodesList_len]; omega)]
  unfold RN
  rw [← hE]
  exact h1
theorem RN.thereNode {u : World} {B g cap : Nat} {N : NS} (h : RN u B g cap N) (n : Nat) (hn : n < 64) : u.there g (n * 257) 257 := fun j hj => by
  refine ⟨?_, h.free _⟩
  rw [h.cell n j hn hj]
  rfl

set_option maxRecDepth 100000 in
theorem build61 (e : Int) (c : Nat → Nat) : Try.prog.built 61 [(0, .int .u64 e), (1, .agg (wordsArr c))] = some (nodeRow e c).toArray := by kernel_rfl

theorem new_nodes (n : Nat) (c : Nat → Nat) (hc : ∀ i, c i < 18446744073709551616) (e : Int) (j i : Nat) (hi : i < 256) : (NS.none.setNode n e c).wd j i = (NS.of (newV n c e)).wd j i := by
  have hx : (NS.none.setNode n e c).wd j i = if j = n then c i else 0 := rfl
  rw [hx]
  refine eq_word (by split; exact hc i; decide) (NS.of_wd_lt (newV n c e) j i) fun r hr => ?_
  rw [NS.of_bit (newV n c e) j i r hr, owns_iff]
  have hhas : hasBit c (64 * i + r) = (c i).testBit r := by
    unfold hasBit
    rw [show (64 * i + r) / 64 = i by omega, show (64 * i + r) % 64 = r by omega]
  have hown : (newV n c e).own (64 * i + r) = if hasBit c (64 * i + r) = true then (n : Int) else -1 := by
    unfold newV
    simp only
    by_cases hb : hasBit c (64 * i + r) = true
    · rw [if_pos (mem_slotsTo.2 ⟨by omega, hb⟩), if_pos hb]
    · rw [if_neg (fun h => hb (mem_slotsTo.1 h).2), if_pos (by omega), if_neg hb]
  rw [hown, hhas]
  cases hb : (c i).testBit r with
  | true =>
    by_cases hjn : j = n
    · simp [hjn, hb]
    · simp [hjn]
      omega
  | false =>
    by_cases hjn : j = n
    · simp [hjn, hb]
    · simp [hjn]
theorem RN.newV {u : World} {B g cap n : Nat} {c : Nat → Nat} {e : Int} (hc : ∀ i, c i < 18446744073709551616) (h : RN u B g cap (NS.none.setNode n e c)) : RN u B g cap (NS.of (Ytlccbgjlinlioaa.newV n c e)) :=
  h.ofEq (fun _ _ => rfl) fun j i _ hi => new_nodes n c hc e j i hi

set_option maxRecDepth 100000 in
set_option maxHeartbeats 1600000 in
theorem rnew_ok (w : World) (c : Nat → Nat) (hc : ∀ i, c i < 18446744073709551616) (n : Nat) (hn : n < 64) (e : Int) (he : e ≤ 4611686018427387904) :
    Calls Try.prog 29 #[.int .i64 n, .agg (wordsArr c), .int .u64 e] w fun e' w' => ∃ g cap, e' = .returned (.tuple #[refVal n g cap e, .int .i64 0]) ∧ RN w' w.heap.size g cap (NS.of (newV n c e)) ∧ Below w.heap.size w w' := by
  have hb2 : Below w.heap.size w ((w.alloc (.cells (wordsArr c) 24)).alloc (.cells #[.int .i64 0, .slice none 0 0, .int .u64 0] 33)) := below2 _ _ _
  have hby : Box ((w.alloc (.cells (wordsArr c) 24)).alloc (.cells #[.int .i64 0, .slice none 0 0, .int .u64 0] 33)) (w.heap.size + 1) (.int .i64 0) (.slice none 0 0) (.int .u64 0) := box2 _ _ _ _ _
  have hxw : ((w.alloc (.cells (wordsArr c) 24)).alloc (.cells #[.int .i64 0, .slice none 0 0, .int .u64 0] 33)).heap[w.heap.size]? = some (.cells (wordsArr c) 24 (0, 0)) := by
    rw [Below.heap_alloc _ _ _ (by simp)]
    exact heap_alloc_new w _
  have hws : ((w.alloc (.cells (wordsArr c) 24)).alloc (.cells #[.int .i64 0, .slice none 0 0, .int .u64 0] 33)).heap.size = w.heap.size + 1 + 1 := by simp
  have HBd := Lib.hid (build61 e c)
  have HNl := Lib.hid (nodeRow_len e c)
  have HN1 := Lib.hid (nodeRow_one e c)
  have HSet := Lib.hid fun (u : World) (B g cap : Nat) (hu : RN u B g cap NS.none) => hu.setNode n hn e c
  have HNew := Lib.hid fun (u : World) (B g cap : Nat) (hu : RN u B g cap (NS.none.setNode n e c)) => hu.newV hc
  have HS24 : Hid ((Try.prog.info? 24).map (·.size) = some (wordsArr c).size) := by rw [wordsArr_size]; exact size24b
  generalize NS.none.setNode n e c = N1 at *
  generalize nodeRow e c = NR at *
  generalize wordsArr c = WA at *
  have HS61 : Hid ((Try.prog.info? 61).map (·.size) = some NR.toArray.size) := by rw [List.size_toArray, HNl.out]; exact size61
  generalize hw2 : (w.alloc (.cells WA 24)).alloc (.cells #[.int .i64 0, .slice none 0 0, .int .u64 0] 33) = w2 at *
  have HW2 := Lib.hid hw2
  have HBel := Lib.hid hb2
  have HBy := Lib.hid hby
  have HXw := Lib.hid hxw
  have hni : (0 : Int) ≤ (n : Int) ∧ (n : Int) < 64 := by omega
  have n0d : decide ((n : Int) < 0) = false := decide_eq_false (by omega)
  have n1d : decide (63 < (n : Int)) = false := decide_eq_false (by omega)
  have hed : decide (4611686018427387904 < e) = false := decide_eq_false (by omega)
  clear hw2 hb2 hby hxw he
  go_enter Try.func29, Try.ntmps29
  go_upto_region 1 with fail
  rw [HW2.out]
  go_wp2_with fail
  refine wp_make31 21 rfl (.const (.int .i64 64)) (.const (.int .i64 64)) rfl rfl rfl ?_
  intro w3 hr3 hg3
  have hg0 : w.heap.size + 1 + 1 ≤ w2.heap.size := by omega
  have hg1 := hr3.lt.2
  have hby3 := HBy.out.grown hg3 (by simp)
  have hxw3 : w3.heap[w.heap.size]? = some (.cells WA 24 (0, 0)) := (hg3.block _ (by omega) (by simp)).trans HXw.out
  have hb3 : Below w.heap.size w w3 := ⟨hg3.os.trans HBel.out.os, hg3.tape.trans HBel.out.tape, hg3.output.trans HBel.out.output, Nat.le_trans HBel.out.size hg3.size, fun i hi => (hg3.block i (by omega) (by simp)).trans (HBel.out.block i hi)⟩
  generalize w2.heap.size = g at *
  have hbA : Below w3.heap.size w3 (w3.alloc (.cells #[.int .i64 (n : Int), .slice (some ⟨g, 0, none⟩) 64 64, .int .u64 e] 33)) := (Below.refl _ _).alloc (Nat.le_refl _) _
  have HBox := Lib.hid (box1 w3 (.int .i64 (n : Int)) (.slice (some ⟨g, 0, none⟩) 64 64) (.int .u64 e))
  have HR4 := Lib.hid (hr3.below hbA)
  have HBy4 := Lib.hid (hby3.below hbA hby3.lt)
  have HXw4 : Hid ((w3.alloc (.cells #[.int .i64 (n : Int), .slice (some ⟨g, 0, none⟩) 64 64, .int .u64 e] 33)).heap[w.heap.size]? = some (.cells WA 24 (0, 0))) := (hbA.block _ (by have := hby3.lt; omega)).trans hxw3
  have HB4 := Lib.hid (hb3.trans (hbA.mono hb3.size))
  have hw3s : w.heap.size + 1 < w3.heap.size := hby3.lt
  clear hbA hby3 hxw3 hb3 hr3 hg3 hws
  generalize hb8 : w3.heap.size = b8 at *
  have HB8 := Lib.hid hb8
  clear hb8
  simp only [List.setIfInBounds_toArray, List.set_cons_zero, List.set_cons_succ]
  go_upto_region 6 with fail
  rw [HB8.out]
  generalize w3.alloc (.cells #[.int .i64 (n : Int), .slice (some ⟨g, 0, none⟩) 64 64, .int .u64 e] 33) = w4 at *
  obtain ⟨hr5, ho5⟩ := HSet.out w4 _ _ _ HR4.out
  have HTh : Hid (w4.there g (n * 257) NR.toArray.size) := by rw [List.size_toArray, HNl.out]; exact HR4.out.thereNode n hn
  have h81 := HBox.out.cell1
  have HRN := Lib.hid (HNew.out _ _ _ _ hr5)
  have hbx5 := HBox.out.only ho5 (by omega)
  have hby5 := HBy4.out.only ho5 (by omega)
  have HBy5 := Lib.hid hby5
  have HB5 := Lib.hid (ho5.new HB4.out (by omega) HB4.out.size)
  have a0 := hbx5.cell0
  have a1 := hbx5.cell1
  have a2 := hbx5.cell2
  have b0 := hby5.cell0
  have b1 := hby5.cell1
  have b2 := hby5.cell2
  have zb0 := hby5.free 0
  have zb1 := hby5.free 1
  have zb2 := hby5.free 2
  clear hr5 ho5 hbx5 hby5
  go_upto_region 7 with (first
    | (with_reducible refine wpList_load_row rfl 24 (.tmp 4) rfl w.heap.size rfl 24 WA (0, 0) _ HXw4.out Try.underlying24 rfl HS24.out ?_)
    | (with_reducible refine wpList_build_some rfl 61 #[(0, .tmp 26), (1, .tmp 27)] rfl [(0, .int .u64 e), (1, .agg WA)] ?b1 NR.toArray HBd.out ?_)
    | (with_reducible refine wpList_store_mid rfl 61 (.tmp 29) (.tmp 28) rfl g (n * 257) NR.toArray rfl rfl HTh.out HS61.out HN1.out ?_))
  generalize w4.setCells g (n * 257) NR = w5 at *
  simp only [Act.put]
  go_wp2
  refine bodyPost_ret (results_box2 (p := 6) (q := 7) rfl (HBy5.out.set _ _ _) _ rfl) rfl ?_
  exact ⟨g, 64, rfl, (HRN.out.only (Box.onlySet _ _ _ _ _) (by omega)).mono (by omega), (Box.onlySet _ (w.heap.size + 1) _ _ _).new HB5.out (by omega) HB5.out.size⟩

set_option maxRecDepth 100000 in
set_option maxHeartbeats 1600000 in
theorem rnew_no (w : World) (bs : Array Value) (n : Int) (e : Int) (hn : inNode n = false) :
    Calls Try.prog 29 #[.int .i64 n, .agg bs, .int .u64 e] w fun e' w' => e' = .returned (.tuple #[.agg #[.int .i64 0, .slice none 0 0, .int .u64 0], .int .i64 150]) ∧ Below w.heap.size w w' := by
  have hb2 : Below w.heap.size w ((w.alloc (.cells bs 24)).alloc (.cells #[.int .i64 0, .slice none 0 0, .int .u64 0] 33)) := below2 _ _ _
  have hby : Box ((w.alloc (.cells bs 24)).alloc (.cells #[.int .i64 0, .slice none 0 0, .int .u64 0] 33)) (w.heap.size + 1) (.int .i64 0) (.slice none 0 0) (.int .u64 0) := box2 _ _ _ _ _
  generalize hw2 : (w.alloc (.cells bs 24)).alloc (.cells #[.int .i64 0, .slice none 0 0, .int .u64 0] 33) = w2 at *
  have HW2 := Lib.hid hw2
  have HBel := Lib.hid hb2
  have HBy := Lib.hid hby
  have b0 := hby.cell0
  have b1 := hby.cell1
  have b2 := hby.cell2
  have zb0 := hby.free 0
  have zb1 := hby.free 1
  have zb2 := hby.free 2
  have hn3 := inNode_false hn
  clear hw2 hb2 hby hn
  by_cases n0 : n < 0
  · clear hn3
    go_enter Try.func29, Try.ntmps29
    go_upto_region 1 with fail
    rw [HW2.out]
    go_wp2
    refine bodyPost_ret (results_box2 (p := 6) (q := 7) rfl (HBy.out.set _ _ _) _ rfl) rfl ?_
    exact ⟨rfl, (Box.onlySet _ (w.heap.size + 1) _ _ _).new HBel.out (by omega) HBel.out.size⟩
  · have n0d : decide (n < 0) = false := decide_eq_false n0
    have n1 : 63 < n := by omega
    clear hn3 n0
    go_enter Try.func29, Try.ntmps29
    go_upto_region 1 with fail
    rw [HW2.out]
    go_wp2
    refine bodyPost_ret (results_box2 (p := 6) (q := 7) rfl (HBy.out.set _ _ _) _ rfl) rfl ?_
    exact ⟨rfl, (Box.onlySet _ (w.heap.size + 1) _ _ _).new HBel.out (by omega) HBel.out.size⟩

set_option maxRecDepth 100000 in
set_option maxHeartbeats 1600000 in
theorem rnew_big (w : World) (bs : Array Value) (n : Int) (e : Int) (hn : inNode n = true) (he : 4611686018427387904 < e) :
    Calls Try.prog 29 #[.int .i64 n, .agg bs, .int .u64 e] w fun e' w' => e' = .returned (.tuple #[.agg #[.int .i64 0, .slice none 0 0, .int .u64 0], .int .i64 1]) ∧ Below w.heap.size w w' := by
  have hb2 : Below w.heap.size w ((w.alloc (.cells bs 24)).alloc (.cells #[.int .i64 0, .slice none 0 0, .int .u64 0] 33)) := below2 _ _ _
  have hby : Box ((w.alloc (.cells bs 24)).alloc (.cells #[.int .i64 0, .slice none 0 0, .int .u64 0] 33)) (w.heap.size + 1) (.int .i64 0) (.slice none 0 0) (.int .u64 0) := box2 _ _ _ _ _
  generalize hw2 : (w.alloc (.cells bs 24)).alloc (.cells #[.int .i64 0, .slice none 0 0, .int .u64 0] 33) = w2 at *
  have HW2 := Lib.hid hw2
  have HBel := Lib.hid hb2
  have HBy := Lib.hid hby
  have b0 := hby.cell0
  have b1 := hby.cell1
  have b2 := hby.cell2
  have zb0 := hby.free 0
  have zb1 := hby.free 1
  have zb2 := hby.free 2
  have hn3 := inNode_true hn
  have n0d : decide (n < 0) = false := decide_eq_false (by omega)
  have n1d : decide (63 < n) = false := decide_eq_false (by omega)
  clear hw2 hb2 hby hn hn3
  go_enter Try.func29, Try.ntmps29
  go_upto_region 1 with fail
  rw [HW2.out]
  go_wp2
  refine bodyPost_ret (results_box2 (p := 6) (q := 7) rfl (HBy.out.set _ _ _) _ rfl) rfl ?_
  exact ⟨rfl, (Box.onlySet _ (w.heap.size + 1) _ _ _).new HBel.out (by omega) HBel.out.size⟩
end Go.Proofs.Ytlccbgjlinlioaa
