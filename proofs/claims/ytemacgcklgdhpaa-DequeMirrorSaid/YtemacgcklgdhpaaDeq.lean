/- The walks of the deque's methods. -/
import Derived.Test.YtemacgcklgdhpaaRows
import Derived.Test.YtemacgcklgdhpaaPlain
import Derived.WalkKit
import Derived.WalkLawsBesides
import Derived.Lib.Hide
import Derived.BigQuiet
import Derived.StillTailTactics
import Derived.BigRegion
import Derived.Deep.DeepCutAuto
import Derived.Deep.RegionWith
import Derived.Deep.MidRow
namespace Go.Proofs.Ytemacgcklgdhpaa
open Go.RowKit

/-- Block g is a deque that holds l. -/
def Dq (w : World) (g : Nat) (l : List ByteArray) : Prop := ∃ cs f, w.heap[g]? = some (.cells cs 48 (0, 0)) ∧ Ring cs f l

/-- the same but for the count of draws -/
structure Like (w' u : World) : Prop where
  heap : w'.heap = u.heap
  os : w'.os = u.os
  tape : w'.tape = u.tape
  output : w'.output = u.output

/-- only block g has changed -/
abbrev Only (w w' : World) (g : Nat) : Prop := w.grownBy w' (some g)

theorem Only.refl (w : World) (g : Nat) : Only w w g := ⟨rfl, rfl, rfl, Nat.le_refl _, fun _ _ _ => rfl⟩
theorem Only.trans {a b c : World} {g : Nat} (h : Only a b g) (k : Only b c g) : Only a c g :=
  ⟨k.os.trans h.os, k.tape.trans h.tape, k.output.trans h.output, Nat.le_trans h.size k.size, fun i hi hg => (k.block i (Nat.lt_of_lt_of_le hi h.size) hg).trans (h.block i hi hg)⟩
theorem Only.setCell (w : World) (g i : Nat) (v : Value) : Only w (w.setCell ⟨g, i, none⟩ v) g :=
  ⟨rfl, rfl, rfl, by simp [World.setCell], fun k _ hg => Below.heap_setCell _ _ _ _ (fun e => hg (by rw [e]))⟩
theorem Only.like {w u w' : World} {g : Nat} (h : Only w u g) (l : Like w' u) : Only w w' g :=
  ⟨l.os.trans h.os, l.tape.trans h.tape, l.output.trans h.output, by rw [l.heap]; exact h.size, fun k hk hg => by rw [l.heap]; exact h.block k hk hg⟩
theorem Only.drew {w w' : World} {g : Nat} (h : Only w w' g) : Only w w'.drew g := ⟨h.os, h.tape, h.output, h.size, h.block⟩

theorem cell_any (g f i : Nat) (w : World) (h : w.cell? ⟨g, 256, none⟩ = some (.int .i64 f)) (hf : f < 256) (hi : i ≤ 256) :
    Calls Try.prog 20 #[.pointer (some ⟨g, 0, none⟩), .int .i64 i] w fun e w' => e = .returned (.int .i64 ((f + i) % 256 : Nat)) ∧ w = w' := by
  go_enter Try.func20, Try.ntmps20
  go_wp2
  go_ret
  exact ⟨by simp, rfl⟩

theorem len_any (g n : Nat) (w : World) (h : w.cell? ⟨g, 257, none⟩ = some (.int .i64 n)) :
    Calls Try.prog 13 #[.pointer (some ⟨g, 0, none⟩)] w fun e w' => e = .returned (.int .i64 n) ∧ w = w' := by
  go_enter Try.func13, Try.ntmps13
  go_wp2
  go_ret
  exact ⟨rfl, rfl⟩

/-- What a walk reads of a deque. -/
theorem Ring.cell {w : World} {g : Nat} {cs : Array Value} (hg : w.heap[g]? = some (.cells cs 48 (0, 0))) {i : Nat} {v : Value} (h : cs[i]? = some v) : w.cell? ⟨g, i, none⟩ = some v := by
  rw [cell_of_row w g i cs 48 (0, 0) hg, h]

/-- a contract that leaves the world alone, as the walk of a region that draws asks it -/
theorem still_of {P : Program} {f : FuncId} {args : Array Value} {w : World} {v : Value} (h : Calls P f args w fun e w' => e = .returned v ∧ w = w') : Calls P f args w fun e w' => e = .returned v ∧ w' = w :=
  h.mono fun _ _ ⟨he, hw⟩ => ⟨he, hw.symm⟩

theorem push_full (g : Nat) (front : Bool) (s : ByteArray) (w : World) (h : w.cell? ⟨g, 257, none⟩ = some (.int .i64 256)) :
    Calls Try.prog 11 #[.pointer (some ⟨g, 0, none⟩), .bool front, .string s] w fun e w' => e = .returned (.bool false) ∧ w = w' := by
  go_enter Try.func11, Try.ntmps11
  go_wp2
  go_ret
  exact ⟨rfl, rfl⟩

set_option maxRecDepth 100000 in
set_option maxHeartbeats 400000 in
theorem push_back (g f n k : Nat) (s : ByteArray) (old : Value) (w : World) (h6 : w.cell? ⟨g, 256, none⟩ = some (.int .i64 f)) (h7 : w.cell? ⟨g, 257, none⟩ = some (.int .i64 n))
    (hf : f < 256) (hn : n < 256) (hk : k = (f + n) % 256) (hc : w.cell? ⟨g, k, none⟩ = some old) (hz : ∀ i, w.frozen? ⟨g, i, none⟩ = false) :
    Calls Try.prog 11 #[.pointer (some ⟨g, 0, none⟩), .bool false, .string s] w fun e w' => e = .returned (.bool true) ∧
      Like w' ((w.setCell ⟨g, k, none⟩ (.string s)).setCell ⟨g, 257, none⟩ (.int .i64 ((n : Int) + 1))) := by
  have z1 := hz k
  have z2 := hz 257
  have hm : k < 256 := by omega
  have hb : ((n : Int) == 256) = false := by rw [beq_eq_false_iff_ne]; omega
  have hcell := still_of (cell_any g f n w.drew (by simpa using h6) hf (by omega))
  rw [← hk] at hcell
  have HCell := Lib.hid hcell
  have hidx : (0 : Int) ≤ (k : Int) ∧ (k : Int) < 256 := by omega
  clear hcell hz hk
  go_enter Try.func11, Try.ntmps11
  go_wp2_with fail
  refine wp_region_still_tail 11 (by kernel_rfl) (by kernel_rfl) ?_
  simp only [List.take_succ_cons, List.take_zero, List.drop_succ_cons, List.drop_zero]
  iterate 6 still_step
  still_call HCell.out
  iterate 4 still_step
  refine wpStill_nil ?_
  change wpList _ _ _ _ _ w.drew
  go_wp2
  go_ret
  exact ⟨rfl, ⟨rfl, rfl, rfl, rfl⟩⟩

set_option maxRecDepth 100000 in
set_option maxHeartbeats 400000 in
theorem push_front (g f n k : Nat) (s : ByteArray) (old : Value) (w : World) (h6 : w.cell? ⟨g, 256, none⟩ = some (.int .i64 f)) (h7 : w.cell? ⟨g, 257, none⟩ = some (.int .i64 n))
    (hf : f < 256) (hn : n < 256) (hk : k = (f + 255) % 256) (hc : w.cell? ⟨g, k, none⟩ = some old) (hz : ∀ i, w.frozen? ⟨g, i, none⟩ = false) :
    Calls Try.prog 11 #[.pointer (some ⟨g, 0, none⟩), .bool true, .string s] w fun e w' => e = .returned (.bool true) ∧
      Like w' (((w.setCell ⟨g, 256, none⟩ (.int .i64 k)).setCell ⟨g, k, none⟩ (.string s)).setCell ⟨g, 257, none⟩ (.int .i64 ((n : Int) + 1))) := by
  have z1 := hz k
  have z2 := hz 257
  have z3 := hz 256
  have hm : k < 256 := by omega
  have hb : ((n : Int) == 256) = false := by rw [beq_eq_false_iff_ne]; omega
  have hcell := cell_any g f 255 w h6 hf (by omega)
  rw [← hk] at hcell
  have HCell := Lib.hid hcell
  have hidx : (0 : Int) ≤ (k : Int) ∧ (k : Int) < 256 := by omega
  clear hcell hz hk
  go_enter Try.func11, Try.ntmps11
  go_wp2_with fail
  refine HCell.out.mono ?_
  rintro e w' ⟨rfl, rfl⟩
  go_wp2_with fail
  go_region
  all_goals go_wp2
  all_goals go_ret
  all_goals exact ⟨rfl, ⟨rfl, rfl, rfl, rfl⟩⟩

end Go.Proofs.Ytemacgcklgdhpaa
