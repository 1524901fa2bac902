/- The stretch of a row that two places mean: the program's and the document's. -/
import Derived.Test.YtemacgcklgdhpaaRows
import Derived.WalkKit
import Derived.WalkLawsBesides
import Derived.Lib.Hide
import Derived.Deep.DeepCutAuto
namespace Go.Proofs.Ytemacgcklgdhpaa
open Go.RowKit

def pl (n m : Int) : Int := if n < 0 then n + m else n
def lo (f m : Int) : Int := if pl f m < 0 then 0 else pl f m
def hi (t m : Int) : Int := if pl t m < m - 1 then pl t m else m - 1
/-- from where -/
def clampA (f t m : Int) : Int := if m < 1 then 0 else if hi t m < lo f m then 0 else lo f m
/-- behind what -/
def clampB (f t m : Int) : Int := if m < 1 then 0 else if hi t m < lo f m then 0 else hi t m + 1

theorem clamp_bounds (f t m : Int) (hm : 0 ≤ m) : 0 ≤ clampA f t m ∧ clampA f t m ≤ clampB f t m ∧ clampB f t m ≤ m := by
  unfold clampA clampB
  have h1 : 0 ≤ lo f m := by unfold lo; split <;> omega
  have h2 : hi t m ≤ m - 1 := by unfold hi; split <;> omega
  split
  · omega
  · split <;> omega

theorem place_num (n m : Int) (w : World) (hn : -9223372036854775808 ≤ n) (hm0 : 0 ≤ m) (hm : m ≤ 1000) :
    Calls Try.prog 30 #[.int .i64 n, .int .i64 m] w fun e w' => e = .returned (.int .i64 (pl n m)) ∧ w = w' := by
  by_cases h : n < 0
  · have HE := Lib.hid (show pl n m = n + m by unfold pl; rw [if_pos h])
    go_enter Try.func30, Try.ntmps30
    go_wp2
    go_ret
    rw [HE.out]
    exact ⟨rfl, rfl⟩
  · have HE := Lib.hid (show pl n m = n by unfold pl; rw [if_neg h])
    go_enter Try.func30, Try.ntmps30
    go_wp2
    go_ret
    rw [HE.out]
    exact ⟨rfl, rfl⟩

theorem ret_pair {a b c d : Int} (h : a = c) (g : b = d) : Ending.returned (.tuple #[.int .i64 a, .int .i64 b]) = .returned (.tuple #[.int .i64 c, .int .i64 d]) := by rw [h, g]

set_option maxHeartbeats 400000 in
theorem clamp_any (f t m : Int) (w : World) (hf : -9223372036854775808 ≤ f) (ht : -9223372036854775808 ≤ t) (hm0 : 0 ≤ m) (hm : m ≤ 1000) :
    Calls Try.prog 22 #[.int .i64 f, .int .i64 t, .int .i64 m] w fun e w' => e = .returned (.tuple #[.int .i64 (clampA f t m), .int .i64 (clampB f t m)]) ∧ w = w' := by
  have HA := Lib.hid (place_num f m w hf hm0 hm)
  have HB := Lib.hid (place_num t m w ht hm0 hm)
  by_cases h1 : m < 1
  · have HE := Lib.hid (show clampA f t m = 0 ∧ clampB f t m = 0 by unfold clampA clampB; rw [if_pos h1, if_pos h1]; exact ⟨rfl, rfl⟩)
    go_enter Try.func22, Try.ntmps22
    go_wp2
    go_ret2
    rw [HE.out.1, HE.out.2]
    exact ⟨rfl, rfl⟩
  · have hA := HA.out
    have hB := HB.out
    have e1 : lo f m = if pl f m < 0 then 0 else pl f m := rfl
    have e2 : hi t m = if pl t m < m - 1 then pl t m else m - 1 := rfl
    have e3 : clampA f t m = if hi t m < lo f m then 0 else lo f m := by unfold clampA; rw [if_neg h1]
    have e4 : clampB f t m = if hi t m < lo f m then 0 else hi t m + 1 := by unfold clampB; rw [if_neg h1]
    have b2 : hi t m ≤ m - 1 := by rw [e2]; split <;> omega
    have b3 : -9223372036854775808 ≤ hi t m := by
      rw [e2]
      have : -9223372036854775808 ≤ pl t m := by unfold pl; split <;> omega
      split <;> omega
    clear HA HB
    generalize pl f m = x at hA e1
    generalize pl t m = y at hB e2
    generalize lo f m = L at e1 e3 e4
    generalize hi t m = T at e2 e3 e4 b2 b3
    generalize clampA f t m = ca at e3 ⊢
    generalize clampB f t m = cb at e4 ⊢
    have HA := Lib.hid hA
    have HB := Lib.hid hB
    have E1 := Lib.hid e1
    have E2 := Lib.hid e2
    have E3 := Lib.hid e3
    have E4 := Lib.hid e4
    clear hA hB e1 e2 e3 e4
    go_enter Try.func22, Try.ntmps22
    go_upto_region 3 with fail
    go_cut [0, 1] (fun a b wx => a = .int .i64 L ∧ b = .int .i64 T ∧ w = wx)
    case first =>
      go_wp2_with fail
      refine HA.out.mono ?_
      rintro e w' ⟨rfl, rfl⟩
      go_wp2_with fail
      all_goals refine HB.out.mono ?_
      all_goals rintro e w' ⟨rfl, rfl⟩
      all_goals go_wp2_with fail
      all_goals go_meet
      all_goals refine ⟨congrArg (Value.int .i64) ?_, congrArg (Value.int .i64) ?_, rfl⟩
      all_goals first | (rw [E1.out]; split <;> omega) | (rw [E2.out]; split <;> omega)
    case rest =>
      obtain ⟨rfl, rfl, rfl⟩ := hcut
      go_wp2
      all_goals go_ret2
      all_goals exact ⟨ret_pair (by rw [E3.out]; split <;> omega) (by rw [E4.out]; split <;> omega), rfl⟩
end Go.Proofs.Ytemacgcklgdhpaa
