/- The document's stretch: the places are gone through. -/
import Derived.Test.YtemacgcklgdhpaaClamp
namespace Go.Proofs.Ytemacgcklgdhpaa
open Go.RowKit

/-- behind k rounds -/
def rA (L T k : Int) : Int := if L < k ∧ L ≤ T then L else 0
def rB (L T k : Int) : Int := if L < k ∧ L ≤ T then (if k ≤ T then k else T + 1) else 0

theorem rA_end (f t m : Int) (hm : 0 ≤ m) : rA (lo f m) (hi t m) m = clampA f t m := by
  unfold rA clampA
  have b1 : hi t m ≤ m - 1 := by unfold hi; split <;> omega
  have b2 : 0 ≤ lo f m := by unfold lo; split <;> omega
  repeat' split
  all_goals omega
theorem rB_end (f t m : Int) (hm : 0 ≤ m) : rB (lo f m) (hi t m) m = clampB f t m := by
  unfold rB clampB
  have b1 : hi t m ≤ m - 1 := by unfold hi; split <;> omega
  have b2 : 0 ≤ lo f m := by unfold lo; split <;> omega
  repeat' split
  all_goals omega

/-- one round: the place k is in the stretch, or it is not -/
theorem round_in (f t m k : Int) (hk : 0 ≤ k) (hkm : k < m) (ha : pl f m ≤ k) (hb : k ≤ pl t m) :
    (rB (lo f m) (hi t m) k = 0 → rA (lo f m) (hi t m) (k + 1) = k) ∧ (rB (lo f m) (hi t m) k ≠ 0 → rA (lo f m) (hi t m) (k + 1) = rA (lo f m) (hi t m) k) ∧ rB (lo f m) (hi t m) (k + 1) = k + 1 := by
  unfold rA rB lo hi
  refine ⟨?_, ?_, ?_⟩ <;> (repeat' split) <;> omega
theorem round_out (f t m k : Int) (hk : 0 ≤ k) (hkm : k < m) (h : k < pl f m ∨ pl t m < k) :
    rA (lo f m) (hi t m) (k + 1) = rA (lo f m) (hi t m) k ∧ rB (lo f m) (hi t m) (k + 1) = rB (lo f m) (hi t m) k := by
  unfold rA rB lo hi
  refine ⟨?_, ?_⟩ <;> (repeat' split) <;> omega

theorem rB_bounds (f t m k : Int) (hk : 0 ≤ k) (hm : 0 ≤ m) : 0 ≤ rB (lo f m) (hi t m) k ∧ rB (lo f m) (hi t m) k ≤ m ∧ 0 ≤ rA (lo f m) (hi t m) k ∧ rA (lo f m) (hi t m) k ≤ m := by
  have b1 : hi t m ≤ m - 1 := by unfold hi; split <;> omega
  have b2 : 0 ≤ lo f m := by unfold lo; split <;> omega
  unfold rA rB
  refine ⟨?_, ?_, ?_, ?_⟩ <;> (repeat' split) <;> omega

set_option maxHeartbeats 3200000 in
theorem rclamp_any (f t : Int) (m : Nat) (w : World) (hf : -9223372036854775808 ≤ f) (ht : -9223372036854775808 ≤ t) (hf2 : f ≤ 9223372036854775807) (ht2 : t ≤ 9223372036854775807) (hm : m ≤ 1000) :
    Calls Try.prog 32 #[.int .i64 f, .int .i64 t, .int .i64 m] w fun e w' => e = .returned (.tuple #[.int .i64 (clampA f t m), .int .i64 (clampB f t m)]) ∧ w = w' := by
  have HE1 := Lib.hid (rA_end f t m (by omega))
  have HE2 := Lib.hid (rB_end f t m (by omega))
  have HBd := Lib.hid (fun (k : Nat) => rB_bounds f t m k (by omega) (by omega))
  have HIn := Lib.hid (fun (k : Nat) (h : k < m) => round_in f t m k (by omega) (by omega))
  have HOut := Lib.hid (fun (k : Nat) (h : k < m) => round_out f t m k (by omega) (by omega))
  have hpf : (0 ≤ f ∧ pl f m = f) ∨ (f < 0 ∧ pl f m = f + m) := by unfold pl; split <;> omega
  have hpt : (0 ≤ t ∧ pl t m = t) ∨ (t < 0 ∧ pl t m = t + m) := by unfold pl; split <;> omega
  go_enter Try.func32, Try.ntmps32
  go_wp2
  go_loop [8, 9, 10] (fun a b i => ∃ k : Nat, k ≤ m ∧ i = .int .i64 k ∧ a = .int .i64 (rA (lo f m) (hi t m) k) ∧ b = .int .i64 (rB (lo f m) (hi t m) k)) (fun _ _ i => m - (intOf i).toNat)
  case atStart => exact ⟨0, Nat.zero_le _, rfl, congrArg (Value.int .i64) (by have := HBd.out 0; unfold rA; split; (unfold lo at *; split at * <;> omega); rfl), congrArg (Value.int .i64) (by have := HBd.out 0; unfold rB; split; (unfold lo at *; split at * <;> omega); rfl)⟩
  case round =>
    obtain ⟨k, hk, rfl, rfl, rfl⟩ := hrel
    by_cases hlt : k < m
    · have hbd := HBd.out k
      have hin := HIn.out k hlt
      have hout := HOut.out k hlt
      have hboth : (pl f m ≤ k ∧ k ≤ pl t m ∧ ((rB (lo f m) (hi t m) k = 0 ∧ rA (lo f m) (hi t m) ((k + 1 : Nat) : Int) = k) ∨ (rB (lo f m) (hi t m) k ≠ 0 ∧ rA (lo f m) (hi t m) ((k + 1 : Nat) : Int) = rA (lo f m) (hi t m) k)) ∧ rB (lo f m) (hi t m) ((k + 1 : Nat) : Int) = k + 1) ∨
          ((k < pl f m ∨ pl t m < k) ∧ rA (lo f m) (hi t m) ((k + 1 : Nat) : Int) = rA (lo f m) (hi t m) k ∧ rB (lo f m) (hi t m) ((k + 1 : Nat) : Int) = rB (lo f m) (hi t m) k) := by
        rw [show ((k + 1 : Nat) : Int) = (k : Int) + 1 by omega]
        by_cases h : (pl f m ≤ k ∧ k ≤ pl t m)
        · left
          obtain ⟨i1, i2, i3⟩ := hin h.1 h.2
          refine ⟨h.1, h.2, ?_, i3⟩
          by_cases hz : rB (lo f m) (hi t m) k = 0
          · exact .inl ⟨hz, i1 hz⟩
          · exact .inr ⟨hz, i2 hz⟩
        · right
          have h' : k < pl f m ∨ pl t m < k := by omega
          exact ⟨h', hout h'⟩
      clear hin hout
      generalize rA (lo f m) (hi t m) k = a at *
      generalize rB (lo f m) (hi t m) k = b at *
      have H1 := Lib.hid hboth
      obtain ⟨b1, b2, b3, b4⟩ := hbd
      clear hboth HE1 HE2 HBd HIn HOut
      rcases hpf with ⟨f1, f2⟩ | ⟨f1, f2⟩ <;> rcases hpt with ⟨t1, t2⟩ | ⟨t1, t2⟩
      all_goals have F2 := Lib.hid f2
      all_goals have T2 := Lib.hid t2
      all_goals clear f2 t2
      all_goals go_wp2
      all_goals refine ⟨⟨k + 1, by omega, by go_num, congrArg (Value.int .i64) ?_, congrArg (Value.int .i64) ?_⟩, by simp [intOf]; omega⟩
      all_goals have h1 := H1.out
      all_goals have h2 := F2.out
      all_goals have h3 := T2.out
      all_goals clear H1 F2 T2
      all_goals first
        | (have hb0 : (b == 0) = true := by assumption
           have hb := beq_iff_eq.1 hb0
           clear hb0
           omega)
        | (have hb0 : (b == 0) = false := by assumption
           have hb := beq_eq_false_iff_ne.1 hb0
           clear hb0
           omega)
        | omega
    · have hke : k = m := by omega
      subst hke
      go_wp2
      go_ret2
      exact ⟨ret_pair HE1.out HE2.out, rfl⟩
end Go.Proofs.Ytemacgcklgdhpaa
