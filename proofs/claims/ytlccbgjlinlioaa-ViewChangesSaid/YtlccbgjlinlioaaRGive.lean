/- The document's Give, Win; what they do to the nodes. -/
import Derived.Test.YtlccbgjlinlioaaOwned
namespace Go.Proofs.Ytlccbgjlinlioaa
open Go.RowKit

theorem eq_word {a b : Nat} (ha : a < 18446744073709551616) (hb : b < 18446744073709551616) (h : ∀ r, r < 64 → a.testBit r = b.testBit r) : a = b := by
  apply Nat.eq_of_testBit_eq
  intro r
  by_cases hr : r < 64
  · exact h r hr
  · have h2 : 18446744073709551616 ≤ 2 ^ r := Nat.le_trans (show 18446744073709551616 ≤ 2 ^ 64 by decide) (Nat.pow_le_pow_right (by decide) (by omega))
    rw [Nat.testBit_lt_two_pow (Nat.lt_of_lt_of_le ha h2), Nat.testBit_lt_two_pow (Nat.lt_of_lt_of_le hb h2)]
theorem wordsOf_bit (F : Nat → Bool) (i r : Nat) (hr : r < 64) : (wordsOf F i).testBit r = F (64 * i + r) := by
  unfold wordsOf
  rw [pack_bit, decide_eq_true hr, Bool.true_and]

theorem owned_words (s : VS) (k n : Nat) (j i : Nat) (hj : j < 64) : ((NS.of s).ownedTo k n 64).wd j i = (NS.of (s.setOwn k n)).wd j i := by
  refine eq_word ((NS.of_lt s).ownedTo k n 64 j i) (wordsOf_lt _ _) fun r hr => ?_
  have hx := wordsOf_bit (s.owns j) i r hr
  have hxl := wordsOf_lt (s.owns j) i
  have hR : ((NS.of (s.setOwn k n)).wd j i).testBit r = (s.setOwn k n).owns j (64 * i + r) := wordsOf_bit _ i r hr
  rw [hR]
  unfold NS.ownedTo NS.of
  simp only
  by_cases hi : i = k / 64
  · rw [if_pos ⟨hi, hj⟩]
    have hp := pow_lt64 (k % 64) (by omega)
    have hwb := without_bit (wordsOf (s.owns j) i) (2 ^ (k % 64)) r hp hr
    have h2 : (2 ^ (k % 64)).testBit r = decide (k % 64 = r) := Nat.testBit_two_pow
    by_cases hjn : j = n
    · rw [if_pos hjn, Nat.testBit_or, hwb, hx, h2]
      by_cases hrk : k % 64 = r
      · have e : 64 * i + r = k := by omega
        rw [e]
        unfold VS.owns VS.setOwn
        simp [hrk, hjn]
      · have e : 64 * i + r ≠ k := by omega
        unfold VS.owns VS.setOwn
        simp [hrk, e]
    · rw [if_neg hjn, hwb, hx, h2]
      by_cases hrk : k % 64 = r
      · have e : 64 * i + r = k := by omega
        rw [e]
        unfold VS.owns VS.setOwn
        simp [hrk]
        intro h
        exact absurd (by omega) hjn
      · have e : 64 * i + r ≠ k := by omega
        unfold VS.owns VS.setOwn
        simp [hrk, e]
  · rw [if_neg (fun h => hi h.1), hx]
    have e : 64 * i + r ≠ k := by omega
    unfold VS.owns VS.setOwn
    simp [e]
theorem RN.owned {u : World} {B g cap : Nat} {s : VS} {k n : Nat} (h : RN u B g cap ((NS.of s).ownedTo k n 64)) : RN u B g cap (NS.of (s.setOwn k n)) :=
  h.ofEq (fun _ _ => rfl) fun j i hj _ => owned_words s k n j i hj
theorem RN.raised {u : World} {B g cap : Nat} {s : VS} (h : RN u B g cap ((NS.of s).setEp s.self (s.cur + 1))) : RN u B g cap (NS.of s.raise) := h
theorem RN.cured {u : World} {B g cap : Nat} {s : VS} (v : Int) (h : RN u B g cap (NS.of s)) : RN u B g cap (NS.of (s.setCur v)) := h

set_option maxRecDepth 100000 in
set_option maxHeartbeats 1600000 in
theorem rgive_any {w : World} {B g cap : Nat} {s : VS} (h : RN w B g cap (NS.of s)) (k n : Int) :
    Calls Try.prog 39 #[refVal s.self g cap s.cur, .int .i64 k, .int .i64 n] w fun e w' => ∃ g' cap', e = .returned (.tuple #[refVal s.self g' cap' s.cur, .int .i64 (giveE k n)]) ∧ RN w' B g' cap' (NS.of (s.giveD k n)) ∧ Below w.heap.size w w' := by
  have hgl := h.lt
  have HCp := Lib.hid fun (u : World) (hu : RN u B g cap (NS.of s)) => copied_any (self := s.self) (cur := s.cur) hu
  have HOw := Lib.hid fun (u : World) (B' g' cap' k' n' : Nat) (hu : RN u B' g' cap' (NS.of s)) (hk : k' < 16384) (hn : n' < 64) => rowned_any (self := s.self) (cur := s.cur) hu (NS.of_lt s) k' n' hk hn
  unfold refVal at *
  generalize s.self = self at *
  generalize s.cur = cur at *
  have hb2 : Below w.heap.size w ((w.alloc (.cells #[.int .i64 (self : Int), .slice (some ⟨g, 0, none⟩) 64 cap, .int .u64 cur] 33)).alloc (.cells #[.int .i64 0, .slice none 0 0, .int .u64 0] 33)) := below2 _ _ _
  have hbx : Box ((w.alloc (.cells #[.int .i64 (self : Int), .slice (some ⟨g, 0, none⟩) 64 cap, .int .u64 cur] 33)).alloc (.cells #[.int .i64 0, .slice none 0 0, .int .u64 0] 33)) w.heap.size (.int .i64 (self : Int)) (.slice (some ⟨g, 0, none⟩) 64 cap) (.int .u64 cur) := ⟨by
    rw [Below.heap_alloc _ _ _ (by simp)]
    exact heap_alloc_new w _⟩
  have hby : Box ((w.alloc (.cells #[.int .i64 (self : Int), .slice (some ⟨g, 0, none⟩) 64 cap, .int .u64 cur] 33)).alloc (.cells #[.int .i64 0, .slice none 0 0, .int .u64 0] 33)) (w.heap.size + 1) (.int .i64 0) (.slice none 0 0) (.int .u64 0) := box2 _ _ _ _ _
  have hws : w.heap.size + 1 < ((w.alloc (.cells #[.int .i64 (self : Int), .slice (some ⟨g, 0, none⟩) 64 cap, .int .u64 cur] 33)).alloc (.cells #[.int .i64 0, .slice none 0 0, .int .u64 0] 33)).heap.size := by simp
  have hrn := h.belowN hb2 hgl.2
  generalize hw2 : (w.alloc (.cells #[.int .i64 (self : Int), .slice (some ⟨g, 0, none⟩) 64 cap, .int .u64 cur] 33)).alloc (.cells #[.int .i64 0, .slice none 0 0, .int .u64 0] 33) = w2 at *
  have HW2 := Lib.hid hw2
  have HBel := Lib.hid hb2
  have HRn := Lib.hid hrn
  have HBy := Lib.hid hby
  have a0 := hbx.cell0
  have a1 := hbx.cell1
  have a2 := hbx.cell2
  have b0 := hby.cell0
  have b1 := hby.cell1
  have b2 := hby.cell2
  have zb0 := hby.free 0
  have zb1 := hby.free 1
  have zb2 := hby.free 2
  clear hw2 hb2 hrn hbx hby h
  by_cases hk : inSlot k = true
  · obtain ⟨k0, k1⟩ := inSlot_true hk
    obtain ⟨kk, rfl⟩ := Int.eq_ofNat_of_zero_le k0
    by_cases hn : inNode n = true
    · obtain ⟨n0, n1⟩ := inNode_true hn
      obtain ⟨nn, rfl⟩ := Int.eq_ofNat_of_zero_le n0
      have hE : Hid (giveE kk nn = 0) := by unfold giveE; rw [if_pos hk, if_pos hn]; exact rfl
      have hD : Hid (s.giveD kk nn = s.setOwn kk nn) := by unfold VS.giveD; rw [if_pos hk, if_pos hn]; exact rfl
      have k0d : decide ((kk : Int) < 0) = false := decide_eq_false (by omega)
      have k1d : decide (16383 < (kk : Int)) = false := decide_eq_false (by omega)
      have n0d : decide ((nn : Int) < 0) = false := decide_eq_false (by omega)
      have n1d : decide (63 < (nn : Int)) = false := decide_eq_false (by omega)
      have hkk : kk < 16384 := by omega
      have hnn : nn < 64 := by omega
      clear hk hn k0 k1 n0 n1
      go_enter Try.func39, Try.ntmps39
      go_upto_region 1 with fail
      rw [HW2.out]
      go_wp2_with fail
      refine (HCp.out _ HRn.out).mono ?_
      rintro e w3 ⟨g', cap', rfl, hr3, hb3⟩
      have HR3 := Lib.hid hr3
      have HB3 := Lib.hid hb3
      clear hr3 hb3
      go_wp2_with fail
      refine (HOw.out _ _ _ _ kk nn HR3.out hkk hnn).mono ?_
      rintro e w4 ⟨rfl, hr4, ho4⟩
      have hgt := HR3.out.lt
      have hb4 : Below w2.heap.size w2 w4 := ho4.new HB3.out hgt.1 HB3.out.size
      have HR4 := Lib.hid hr4
      have HB4 := Lib.hid hb4
      have hby4 := HBy.out.below hb4 (by omega)
      have HBy4 := Lib.hid hby4
      clear a0 a1 a2 b0 b1 b2 zb0 zb1 zb2 hr4 ho4 hb4
      have b0 := hby4.cell0
      have b1 := hby4.cell1
      have b2 := hby4.cell2
      have zb0 := hby4.free 0
      have zb1 := hby4.free 1
      have zb2 := hby4.free 2
      clear hby4
      go_wp2
      refine bodyPost_ret (results_box2 (p := 6) (q := 7) rfl (HBy4.out.set _ _ _) _ rfl) rfl ?_
      have hb5 := HBel.out.trans (HB4.out.mono (by omega))
      refine ⟨g', cap', by rw [hE.out]; rfl, ?_, (Box.onlySet _ (w.heap.size + 1) _ _ _).new hb5 (by omega) hb5.size⟩
      rw [hD.out]
      exact ((HR4.out.only (Box.onlySet _ _ _ _ _) (by omega)).mono (by omega)).owned
    · have hE : Hid (giveE kk n = 150) := by unfold giveE; rw [if_pos hk, if_neg hn]; exact rfl
      have hD : Hid (s.giveD kk n = s) := by unfold VS.giveD; rw [if_pos hk, if_neg hn]; exact rfl
      have k0d : decide ((kk : Int) < 0) = false := decide_eq_false (by omega)
      have k1d : decide (16383 < (kk : Int)) = false := decide_eq_false (by omega)
      have hn2 : inNode n = false := by cases h : inNode n; rfl; exact absurd h hn
      have hn3 := inNode_false hn2
      by_cases n0 : n < 0
      · clear hk hn hn2 hn3 k0 k1
        go_enter Try.func39, Try.ntmps39
        go_upto_region 1 with fail
        rw [HW2.out]
        go_wp2
        refine bodyPost_ret (results_box2 (p := 6) (q := 7) rfl (HBy.out.set _ _ _) _ rfl) rfl ?_
        exact ⟨g, cap, by rw [hE.out]; rfl, by rw [hD.out]; exact HRn.out.only (Box.onlySet _ _ _ _ _) (by omega), (Box.onlySet _ (w.heap.size + 1) _ _ _).new HBel.out (by omega) HBel.out.size⟩
      · have n0d : decide (n < 0) = false := decide_eq_false n0
        have n1 : 63 < n := by omega
        clear hk hn hn2 hn3 k0 k1 n0
        go_enter Try.func39, Try.ntmps39
        go_upto_region 1 with fail
        rw [HW2.out]
        go_wp2
        refine bodyPost_ret (results_box2 (p := 6) (q := 7) rfl (HBy.out.set _ _ _) _ rfl) rfl ?_
        exact ⟨g, cap, by rw [hE.out]; rfl, by rw [hD.out]; exact HRn.out.only (Box.onlySet _ _ _ _ _) (by omega), (Box.onlySet _ (w.heap.size + 1) _ _ _).new HBel.out (by omega) HBel.out.size⟩
  · have hE : Hid (giveE k n = 1) := by unfold giveE; rw [if_neg hk]; exact rfl
    have hD : Hid (s.giveD k n = s) := by unfold VS.giveD; rw [if_neg hk]; exact rfl
    have hk2 : inSlot k = false := by cases h : inSlot k; rfl; exact absurd h hk
    have hk3 := inSlot_false hk2
    by_cases k0 : k < 0
    · clear hk hk2 hk3
      go_enter Try.func39, Try.ntmps39
      go_upto_region 1 with fail
      rw [HW2.out]
      go_wp2
      refine bodyPost_ret (results_box2 (p := 6) (q := 7) rfl (HBy.out.set _ _ _) _ rfl) rfl ?_
      exact ⟨g, cap, by rw [hE.out]; rfl, by rw [hD.out]; exact HRn.out.only (Box.onlySet _ _ _ _ _) (by omega), (Box.onlySet _ (w.heap.size + 1) _ _ _).new HBel.out (by omega) HBel.out.size⟩
    · have k0d : decide (k < 0) = false := decide_eq_false k0
      have k1 : 16383 < k := by omega
      clear hk hk2 hk3 k0
      go_enter Try.func39, Try.ntmps39
      go_upto_region 1 with fail
      rw [HW2.out]
      go_wp2
      refine bodyPost_ret (results_box2 (p := 6) (q := 7) rfl (HBy.out.set _ _ _) _ rfl) rfl ?_
      exact ⟨g, cap, by rw [hE.out]; rfl, by rw [hD.out]; exact HRn.out.only (Box.onlySet _ _ _ _ _) (by omega), (Box.onlySet _ (w.heap.size + 1) _ _ _).new HBel.out (by omega) HBel.out.size⟩
end Go.Proofs.Ytlccbgjlinlioaa
