/- The walks of power, Has. -/
import Derived.Test.YtlccbgjlinlioaaSlots
namespace Go.Proofs.Ytlccbgjlinlioaa
open Go.RowKit

theorem pow_step (k r : Nat) (hk : k < r) (hr : r < 64) : 2 ^ (k + 1) = 2 ^ k * 2 ∧ 2 ^ k * 2 < 18446744073709551616 := by
  have h : 2 ^ (k + 1) < 18446744073709551616 := Nat.lt_of_lt_of_le (Nat.pow_lt_pow_right (by decide) (show k + 1 < 64 by omega)) (by decide)
  rw [Nat.pow_succ] at h ⊢
  exact ⟨rfl, h⟩

set_option maxRecDepth 100000 in
set_option maxHeartbeats 800000 in
theorem power_any (r : Nat) (hr : r < 64) (w : World) : Calls Try.prog 43 #[.int .i64 (r : Int)] w fun e w' => e = .returned (.int .u64 ((2 ^ r : Nat) : Int)) ∧ w = w' := by
  go_enter Try.func43, Try.ntmps43
  go_wp2_with fail
  go_loopw [3, 4] (fun p i wx => ∃ k : Nat, k ≤ r ∧ i = .int .i64 k ∧ (∃ X : Nat, X = 2 ^ k ∧ p = .int .u64 (X : Int)) ∧ w = wx) (fun _ i _ => r - (intOf i).toNat)
  case atStart => exact ⟨0, Nat.zero_le _, rfl, ⟨1, rfl, rfl⟩, rfl⟩
  case round =>
    obtain ⟨k, hk, rfl, ⟨X, hX, rfl⟩, rfl⟩ := hrel
    by_cases hlt : k < r
    · have hki : (k : Int) < r := by omega
      obtain ⟨h1, h2⟩ := pow_step k r hlt hr
      rw [← hX] at h1 h2
      have HX : Hid (X * 2 = 2 ^ (k + 1)) := h1.symm
      clear h1 hX
      have hk0 : (0 : Int) ≤ k := by omega
      go_wp2
      go_roundw
      case rel => exact ⟨k + 1, by omega, by go_num, ⟨X * 2, HX.out, by go_num⟩, trivial⟩
      case measure => simp [intOf]; omega
    · have hkr : k = r := by omega
      subst hkr
      have HX := Lib.hid hX
      clear hX
      go_wp2
      go_ret
      exact ⟨by rw [← HX.out]; rfl, rfl⟩

set_option maxRecDepth 100000 in
set_option maxHeartbeats 800000 in
theorem has_any {c : Nat → Nat} (hc : ∀ i, c i < 18446744073709551616) (k : Nat) (hk : k < 16384) (w : World) :
    Calls Try.prog 25 #[.agg (wordsArr c), .int .i64 (k : Int)] w fun e w' => e = .returned (.bool (hasBit c k)) ∧ Below w.heap.size w w' := by
  obtain ⟨q, hq⟩ : ∃ q, q = k / 64 := ⟨_, rfl⟩
  obtain ⟨r, hr⟩ : ∃ r, r = k % 64 := ⟨_, rfl⟩
  have hqi : ((k : Int).tdiv 64) = q := by rw [hq]; exact tdiv64 k
  have hri : ((k : Int).tmod 64) = r := by rw [hr]; exact tmod64 k
  have hq2 : (0 : Int) ≤ q ∧ (q : Int) < 256 := by omega
  have hq3 : (q : Int) < 256 := hq2.2
  have hq4 : (0 : Int) ≤ q := hq2.1
  have hr2 : r < 64 := by omega
  have c0 : (w.alloc (.cells (wordsArr c) 24)).cell? ⟨w.heap.size, q, none⟩ = some (.int .u64 (c q)) := by
    rw [cell_of_row _ _ _ _ _ _ (heap_alloc_new w _)]
    exact (wordsArr_bits hc).word q (by omega)
  have HPw := Lib.hid fun (u : World) => power_any r hr2 u
  have HH : (c q / 2 ^ r % 2 = 1) ↔ hasBit c k = true := by unfold hasBit; rw [← hq, ← hr]; exact half_bit _ _
  have hP : 0 < 2 ^ r := Nat.two_pow_pos r
  have hlt := hc q
  have hPlt : 2 ^ r < 18446744073709551616 := pow_lt64 r hr2
  generalize 2 ^ r = P at *
  generalize c q = x at *
  have hP0 : ¬ (P : Int) = 0 := by omega
  have hd : ((x : Int).tdiv (P : Int)) = ((x / P : Nat) : Int) := by rw [Int.tdiv_eq_ediv_of_nonneg (by omega)]; simp
  have hyl : x / P < 18446744073709551616 := Nat.lt_of_le_of_lt (Nat.div_le_self _ _) hlt
  have HB : Hid (Below w.heap.size w (w.alloc (.cells (wordsArr c) 24))) := (Below.refl _ _).alloc (Nat.le_refl _) _
  have hk0 : (0 : Int) ≤ k ∧ (k : Int) < 16384 := by omega
  generalize hasBit c k = b at *
  generalize wordsArr c = A at *
  generalize x / P = y at *
  have hm := tmod2 y
  clear hc hq hr hlt
  by_cases hy : y % 2 = 1
  · have hb : b = true := HH.1 hy
    subst hb
    rw [hy] at hm
    clear HH hy
    go_enter Try.func25, Try.ntmps25
    go_wp2_with fail
    go_quiet (first | (go_at_call 43; refine Calls.quiet_of_same ((HPw.out _).mono fun _ _ ⟨h1, h2⟩ => ⟨h1, h2.symm⟩)))
    go_wp2
    go_ret
    exact ⟨rfl, below_drewN HB.out _⟩
  · have hb : b = false := by cases b; rfl; exact absurd (HH.2 rfl) hy
    subst hb
    have hy0 : y % 2 = 0 := by omega
    rw [hy0] at hm
    clear HH hy hy0
    go_enter Try.func25, Try.ntmps25
    go_wp2_with fail
    go_quiet (first | (go_at_call 43; refine Calls.quiet_of_same ((HPw.out _).mono fun _ _ ⟨h1, h2⟩ => ⟨h1, h2.symm⟩)))
    go_wp2
    go_ret
    exact ⟨rfl, below_drewN HB.out _⟩
end Go.Proofs.Ytlccbgjlinlioaa
