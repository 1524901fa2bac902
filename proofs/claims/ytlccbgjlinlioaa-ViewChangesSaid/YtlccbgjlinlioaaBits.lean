/- Bits: sixteen thousand slots in 256 words; slot.Has. -/
import Derived.Test.YtlccbgjlinlioaaWin
import Derived.Laws.BitsAllLaws
namespace Go.Proofs.Ytlccbgjlinlioaa
open Go.RowKit

/-- is slot k among the bits? -/
def hasBit (c : Nat → Nat) (k : Nat) : Bool := (c (k / 64)).testBit (k % 64)

/-- the words of a row of bits -/
structure BitsOf (bs : Array Value) (c : Nat → Nat) : Prop where
  size : bs.size = 256
  word : ∀ i, i < 256 → bs[i]? = some (.int .u64 (c i : Int))
  lt : ∀ i, c i < 18446744073709551616

theorem bit_val (x r : Nat) (hx : x < 18446744073709551616) : bits .and .u64 ((x : Int) / 2 ^ r) 1 = if x.testBit r then 1 else 0 := by
  have e : ((x : Int) / 2 ^ r) = ((x / 2 ^ r : Nat) : Int) := by simp
  have h1 : x / 2 ^ r < 18446744073709551616 := Nat.lt_of_le_of_lt (Nat.div_le_self _ _) hx
  rw [e, show (1 : Int) = ((1 : Nat) : Int) from rfl, u64_and_nat _ _ h1 (by decide), Nat.and_one_is_mod, Nat.testBit_eq_decide_div_mod_eq]
  by_cases h : x / 2 ^ r % 2 = 1
  · rw [h]; simp
  · have h2 : x / 2 ^ r % 2 = 0 := by omega
    rw [h2]; simp
theorem bit_one (x r : Nat) (hx : x < 18446744073709551616) : (bits .and .u64 ((x : Int) / 2 ^ r) 1 == 1) = x.testBit r := by
  rw [bit_val x r hx]; cases x.testBit r <;> rfl
theorem bit_zero (x r : Nat) (hx : x < 18446744073709551616) : (bits .and .u64 ((x : Int) / 2 ^ r) 1 == 0) = !x.testBit r := by
  rw [bit_val x r hx]; cases x.testBit r <;> rfl
theorem tdiv64 (k : Nat) : ((k : Int).tdiv 64) = ((k / 64 : Nat) : Int) := by rw [Int.tdiv_eq_ediv_of_nonneg (by omega)]; simp
theorem tmod64 (k : Nat) : ((k : Int).tmod 64) = ((k % 64 : Nat) : Int) := by rw [Int.tmod_eq_emod_of_nonneg (by omega)]; simp

theorem sthere_any (n : Int) (w : World) : Calls Try.prog 57 #[.int .i64 n] w fun e w' => e = .returned (.bool (inSlot n)) ∧ w = w' := by
  by_cases h : 0 ≤ n
  · by_cases h2 : n < 16384
    · have HD : Hid (inSlot n = true) := decide_eq_true ⟨h, h2⟩
      go_enter Try.func57, Try.ntmps57
      go_wp2
      go_ret
      exact ⟨by rw [HD.out]; rfl, rfl⟩
    · have HD : Hid (inSlot n = false) := decide_eq_false (fun hh => h2 hh.2)
      go_enter Try.func57, Try.ntmps57
      go_wp2
      go_ret
      exact ⟨by rw [HD.out]; rfl, rfl⟩
  · have HD : Hid (inSlot n = false) := decide_eq_false (fun hh => h hh.1)
    go_enter Try.func57, Try.ntmps57
    go_wp2
    go_ret
    exact ⟨by rw [HD.out]; rfl, rfl⟩

theorem shas_any {bs : Array Value} {c : Nat → Nat} (hb : BitsOf bs c) (k : Nat) (hk : k < 16384) (w : World) :
    Calls Try.prog 56 #[.agg bs, .int .i64 k] w fun e w' => e = .returned (.bool (hasBit c k)) ∧ Below w.heap.size w w' := by
  have ht : inSlot k = true := decide_eq_true (by omega)
  have HT := Lib.hid fun (u : World) => sthere_any k u
  rw [ht] at HT
  obtain ⟨q, hq⟩ : ∃ q, q = k / 64 := ⟨_, rfl⟩
  obtain ⟨r, hr⟩ : ∃ r, r = k % 64 := ⟨_, rfl⟩
  have hqi : ((k : Int).tdiv 64) = q := by rw [hq]; exact tdiv64 k
  have hri : ((k : Int).tmod 64) = r := by rw [hr]; exact tmod64 k
  have c0 : (w.alloc (.cells bs 24)).cell? ⟨w.heap.size, q, none⟩ = some (.int .u64 (c q)) := by
    rw [cell_of_row _ _ _ _ _ _ (heap_alloc_new w _)]
    exact hb.word q (by omega)
  have hlt := hb.lt q
  have hki : (0 : Int) ≤ q ∧ (q : Int) < 256 := by omega
  have hr2 : r < 64 := by omega
  have HH : Hid (hasBit c k = (c q).testBit r) := by unfold hasBit; rw [hq, hr]; exact rfl
  generalize c q = x at *
  clear hq hr ht hb
  go_enter Try.func56, Try.ntmps56
  go_wp2_with fail
  refine (HT.out _).mono ?_
  rintro e w' ⟨rfl, rfl⟩
  go_wp2
  go_ret
  exact ⟨by rw [HH.out, ← bit_one x r hlt]; rfl, (Below.refl _ _).alloc (Nat.le_refl _) _⟩
end Go.Proofs.Ytlccbgjlinlioaa
