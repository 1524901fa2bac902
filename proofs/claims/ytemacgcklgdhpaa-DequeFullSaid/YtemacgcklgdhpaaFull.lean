/- The walk of DequeFull. -/
import Derived.Test.YtemacgcklgdhpaaLaws
namespace Go.Proofs.Ytemacgcklgdhpaa
open Go.RowKit

theorem pushed_len (l : List ByteArray) (front : Bool) (s : ByteArray) (h : l.length < 256) : (pushed l front s).length = l.length + 1 := by
  unfold pushed
  rw [if_pos h]
  split <;> simp
theorem pushed_full (l : List ByteArray) (front : Bool) (s : ByteArray) (h : l.length = 256) : pushed l front s = l := by
  unfold pushed
  rw [if_neg (by omega)]

set_option maxRecDepth 100000 in
set_option maxHeartbeats 800000 in
theorem full_walk (w : World) (n : Int) (b : Bool) : Calls Try.prog 4 #[.int .i64 n, .bool b] w fun e w' => e = .returned (.bool true) ∧ Below w.heap.size w w' := by
  by_cases hn : 0 ≤ n ∧ n ≤ 1000
  · obtain ⟨h0, h1⟩ := hn
    obtain ⟨N, rfl⟩ := Int.eq_ofNat_of_zero_le h0
    have n0 : ¬ (N : Int) < 0 := by omega
    have n1 : ¬ (1000 : Int) < N := by omega
    go_enter Try.func4, Try.ntmps4
    go_wp2_with fail
    refine (dq_new w).mono ?_
    rintro e w1 ⟨rfl, hd, hb, hsz⟩
    have HD1 := Lib.hid hd
    have HB1 := Lib.hid hb
    clear hd hb
    go_wp2_with fail
    go_loopw [24] (fun i wr => ∃ k : Nat, k ≤ N ∧ i = .int .i64 k ∧ Dq wr w.heap.size [] ∧ Below w.heap.size w wr) (fun i _ => N - (intOf i).toNat)
    case atStart => exact ⟨0, Nat.zero_le _, rfl, HD1.out, HB1.out⟩
    case round =>
      obtain ⟨k, hk, rfl, hd, hb⟩ := hrel
      have HD := Lib.hid hd
      have HB := Lib.hid hb
      have gr := hb.size
      clear hd hb
      by_cases hlt : k < N
      · go_wp2_with fail
        refine (dq_push HD.out true _).mono ?_
        rintro e w2 ⟨rfl, hd, ho⟩
        have HD2 := Lib.hid hd
        have g2 := ho.size
        have HB2 := Lib.hid (ho.new HB.out (Nat.le_refl _) gr)
        clear hd ho
        go_wp2_with fail
        refine (dq_pop HD2.out false).mono ?_
        rintro e w3 ⟨rfl, hd, ho⟩
        have HD3 := Lib.hid hd
        have HB3 := Lib.hid (ho.new HB2.out (Nat.le_refl _) (by omega))
        clear hd ho
        go_wp2
        go_roundw
        case rel => exact ⟨k + 1, by omega, by go_num, HD3.out, HB3.out⟩
        case measure => simp [intOf]; omega
      · have hkn : k = N := by omega
        subst hkn
        go_wp2_with fail
        go_loopw [31] (fun i wr => ∃ (k : Nat) (l : List ByteArray), k ≤ 256 ∧ l.length = k ∧ i = .int .i64 k ∧ Dq wr w.heap.size l ∧ Below w.heap.size w wr) (fun i _ => 256 - (intOf i).toNat)
        case atStart => exact ⟨0, [], Nat.zero_le _, rfl, rfl, HD.out, HB.out⟩
        case round =>
          obtain ⟨j, l, hj, hl, rfl, hd, hb⟩ := hrel
          have HDj := Lib.hid hd
          have HBj := Lib.hid hb
          have grj := hb.size
          clear hd hb
          by_cases hjl : j < 256
          · have hT : Hid (decide (l.length < 256) = true) := decide_eq_true (by omega)
            go_wp2_with fail
            refine (dq_push HDj.out b _).mono ?_
            rintro e w2 ⟨rfl, hd, ho⟩
            rw [hT.out]
            have HL := Lib.hid (pushed_len l b ⟨#[121]⟩ (by omega))
            have HD2 := Lib.hid hd
            have g2 := ho.size
            have HB2 := Lib.hid (ho.new HBj.out (Nat.le_refl _) grj)
            clear hd ho
            generalize pushed l b ⟨#[121]⟩ = l2 at *
            go_wp2_with fail
            refine (dq_len HD2.out).mono ?_
            rintro e w' ⟨rfl, rfl⟩
            rw [show l2.length = j + 1 by rw [HL.out, hl]]
            go_wp2
            go_roundw
            case rel => exact ⟨j + 1, l2, by omega, by rw [HL.out, hl], by go_num, HD2.out, HB2.out⟩
            case measure => simp [intOf]; omega
          · have hj6 : j = 256 := by omega
            subst hj6
            have hT : Hid (decide (l.length < 256) = false) := decide_eq_false (by omega)
            go_wp2_with fail
            refine (alive_walk _).mono ?_
            rintro e w2 ⟨rfl, hb⟩
            have HD2 := Lib.hid (HDj.out.below hb)
            have HB2 := Lib.hid (HBj.out.trans (hb.mono (by omega)))
            have g2 := hb.size
            clear hb
            go_wp2_with fail
            refine (dq_push HD2.out b _).mono ?_
            rintro e w3 ⟨rfl, hd, ho⟩
            rw [hT.out]
            rw [pushed_full l b _ hl] at hd
            have HD3 := Lib.hid hd
            have g3 := ho.size
            have HB3 := Lib.hid (ho.new HB2.out (Nat.le_refl _) (by omega))
            clear hd ho
            go_wp2_with fail
            refine (dq_push HD3.out (!b) _).mono ?_
            rintro e w4 ⟨rfl, hd, ho⟩
            rw [hT.out]
            rw [pushed_full l (!b) _ hl] at hd
            have HD4 := Lib.hid hd
            have HB4 := Lib.hid (ho.new HB3.out (Nat.le_refl _) (by omega))
            clear hd ho
            go_wp2_with fail
            refine (dq_len HD4.out).mono ?_
            rintro e w' ⟨rfl, rfl⟩
            rw [hl]
            go_wp2
            go_ret
            exact ⟨rfl, HB4.out⟩
  · have hh : n < 0 ∨ 1000 < n := by omega
    rcases hh with h0 | h0
    · go_enter Try.func4, Try.ntmps4
      go_wp2_with fail
      refine (dq_new w).mono ?_
      rintro e w1 ⟨rfl, _, hb, hsz⟩
      have HB1 := Lib.hid hb
      clear hb
      go_wp2_with fail
      refine (alive_walk w1).mono ?_
      rintro e w2 ⟨rfl, hb⟩
      have HB2 := Lib.hid (HB1.out.trans (hb.mono (by omega)))
      clear hb
      go_wp2
      go_ret
      exact ⟨rfl, HB2.out⟩
    · have h1 : ¬ n < 0 := by omega
      go_enter Try.func4, Try.ntmps4
      go_wp2_with fail
      refine (dq_new w).mono ?_
      rintro e w1 ⟨rfl, _, hb, hsz⟩
      have HB1 := Lib.hid hb
      clear hb
      go_wp2_with fail
      refine (alive_walk w1).mono ?_
      rintro e w2 ⟨rfl, hb⟩
      have HB2 := Lib.hid (HB1.out.trans (hb.mono (by omega)))
      clear hb
      go_wp2
      go_ret
      exact ⟨rfl, HB2.out⟩
end Go.Proofs.Ytemacgcklgdhpaa
