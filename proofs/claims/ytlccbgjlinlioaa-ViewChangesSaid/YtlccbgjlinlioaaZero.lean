/- The zero value of a view: 16450 cells, taken apart as the program's text lays them. -/
import Derived.Test.YtlccbgjlinlioaaView
namespace Go.Proofs.Ytlccbgjlinlioaa
open Go.RowKit

/-- what lies at place i of a view's zero value: 0 a number, 1 an owner, 2 an epoch -/
def kindAt (i : Nat) : IntKind := if i = 0 then .i64 else if i < 16385 then .i8 else .u64

def okCell (i : Nat) : Value → Bool
  | .int k n => decide (k = kindAt i ∧ n = 0)
  | _ => false
def okRun : Nat → List Value → Bool
  | _, [] => true
  | i, v :: l => okCell i v && okRun (i + 1) l

/-- the list l lies from place i to place j -/
structure Zs (i : Nat) (l : List Value) (j : Nat) : Prop where
  len : j = i + l.length
  all : ∀ k, k < l.length → l[k]? = some (.int (kindAt (i + k)) 0)

theorem okRun_all : ∀ (l : List Value) (i : Nat), okRun i l = true → ∀ k, k < l.length → l[k]? = some (.int (kindAt (i + k)) 0)
  | [], _, _, k, hk => by simp at hk
  | v :: l, i, h, k, hk => by
    simp only [okRun, Bool.and_eq_true] at h
    cases k with
    | zero =>
      cases v <;> simp [okCell] at h
      obtain ⟨⟨rfl, rfl⟩, _⟩ := h
      simp
    | succ k =>
      have := okRun_all l (i + 1) h.2 k (by simpa using hk)
      rw [List.getElem?_cons_succ, this]
      congr 3
      omega

theorem Zs.leaf {i n : Nat} {l : List Value} (h : okRun i l = true) (hn : l.length = n) : Zs i l (i + n) := ⟨by rw [hn], okRun_all l i h⟩
theorem Zs.append {i j m : Nat} {a b : List Value} (ha : Zs i a j) (hb : Zs j b m) : Zs i (List.append a b) m := by
  have e : List.append a b = a ++ b := rfl
  refine ⟨by rw [e, List.length_append, hb.len, ha.len]; omega, fun k hk => ?_⟩
  rw [e, List.length_append] at hk
  rw [e]
  by_cases h : k < a.length
  · rw [List.getElem?_append_left h]; exact ha.all k h
  · rw [List.getElem?_append_right (by omega), hb.all (k - a.length) (by omega), ha.len]
    congr 3
    omega

def zeroList (t : TypeInfo) : List Value := match t.zero with
  | some (.agg a) => a.toList
  | _ => []

theorem Zs.cast {i j j' : Nat} {l : List Value} (h : Zs i l j) (e : j = j') : Zs i l j' := e ▸ h

set_option maxRecDepth 1000000 in
set_option maxHeartbeats 4000000 in
theorem zs80 : Zs 0 (zeroList Try.t80) 16450 := by
  unfold Try.t80 zeroList
  dsimp only
  apply Zs.cast
  case h =>
   repeat' (with_reducible apply Zs.append)
   all_goals first
    | exact Zs.leaf (n := 64) (by kernel_rfl) rfl
    | exact Zs.leaf (n := 32) (by kernel_rfl) rfl
    | exact Zs.leaf (n := 50) (by kernel_rfl) rfl
    | exact Zs.leaf (n := 33) (by kernel_rfl) rfl
    | exact Zs.leaf (n := 34) (by kernel_rfl) rfl
    | exact Zs.leaf (n := 65) (by kernel_rfl) rfl
    | exact Zs.leaf (n := 66) (by kernel_rfl) rfl
    | exact Zs.leaf (n := 2) (by kernel_rfl) rfl
    | exact Zs.leaf (n := 16) (by kernel_rfl) rfl
    | exact Zs.leaf (n := 1) (by kernel_rfl) rfl
    | exact Zs.leaf (n := 18) (by kernel_rfl) rfl
  · kernel_rfl

/-- the cells of a new view -/
noncomputable def zeroCells : Array Value := (zeroList Try.t80).toArray
theorem zero80 (w : World) : (zeroValue 80).run Try.prog w = .ok (.agg zeroCells) w := by kernel_rfl
theorem size80 : (Try.prog.info? 80).map (·.size) = some 16450 := by kernel_rfl
theorem zeroCells_size : zeroCells.size = 16450 := by
  have := zs80.len
  unfold zeroCells
  simp only [List.size_toArray]
  omega
theorem zeroCells_at (k : Nat) (hk : k < 16450) : zeroCells[k]? = some (.int (kindAt k) 0) := by
  have h := zs80.all k (by have := zs80.len; omega)
  unfold zeroCells
  rw [List.getElem?_toArray, h, Nat.zero_add]
theorem zeroCells_ne : ¬ zeroCells = #[] := by
  intro h
  have := zeroCells_size
  rw [h] at this
  simp at this
end Go.Proofs.Ytlccbgjlinlioaa
