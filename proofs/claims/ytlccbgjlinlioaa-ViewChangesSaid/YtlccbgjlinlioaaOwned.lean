/- The document's owned. -/
import Derived.Test.YtlccbgjlinlioaaCopied
namespace Go.Proofs.Ytlccbgjlinlioaa
open Go.RowKit

/-- without the bits of b -/
def without (x b : Nat) : Nat := x &&& (18446744073709551615 - b)
theorem without_lt (x b : Nat) (hx : x < 18446744073709551616) : without x b < 18446744073709551616 := Nat.lt_of_le_of_lt Nat.and_le_left hx
theorem without_bit (x b i : Nat) (hb : b < 18446744073709551616) (hi : i < 64) : (without x b).testBit i = (x.testBit i && !b.testBit i) := by
  unfold without
  rw [Nat.testBit_and, show 18446744073709551615 - b = 2 ^ 64 - (b + 1) by omega, Nat.testBit_two_pow_sub_succ (by omega)]
  simp [hi]
theorem without_word (x b : Nat) (hx : x < 18446744073709551616) (hb : b < 18446744073709551616) : bits .andNot .u64 (x : Int) (b : Int) = ((without x b : Nat) : Int) := u64_andNot_nat x b hx hb
theorem wrap64_id {x : Int} (h1 : -9223372036854775808 ≤ x) (h2 : x ≤ 9223372036854775807) : IntKind.i64.wrap x = x := by
  rw [IntKind.wrap_i64]
  omega
theorem pow_word (r : Nat) (hr : r < 64) : IntKind.u64.wrap (2 ^ r) = ((2 ^ r : Nat) : Int) := by
  have h2 : 2 ^ r < 18446744073709551616 := Nat.lt_of_lt_of_le (Nat.pow_lt_pow_right (by decide) hr) (by decide)
  rw [IntKind.wrap_u64, show (2 : Int) ^ r = ((2 ^ r : Nat) : Int) by simp]
  generalize 2 ^ r = P at *
  omega
theorem pow_lt64 (r : Nat) (hr : r < 64) : 2 ^ r < 18446744073709551616 := Nat.lt_of_lt_of_le (Nat.pow_lt_pow_right (by decide) hr) (by decide)

/-- slot k is node n's, for the nodes j < m -/
def NS.ownedTo (N : NS) (k n m : Nat) : NS :=
  { N with wd := fun j i => if i = k / 64 ∧ j < m then (if j = n then without (N.wd j i) (2 ^ (k % 64)) ||| 2 ^ (k % 64) else without (N.wd j i) (2 ^ (k % 64))) else N.wd j i }
def NS.Lt (N : NS) : Prop := ∀ j i, N.wd j i < 18446744073709551616
theorem NS.Lt.ownedTo {N : NS} (h : N.Lt) (k n m : Nat) : (N.ownedTo k n m).Lt := by
  intro j i
  unfold NS.ownedTo
  simp only
  split
  · split
    · exact or_word_lt _ _ (without_lt _ _ (h j i)) (by omega)
    · exact without_lt _ _ (h j i)
  · exact h j i
theorem NS.of_lt (s : VS) : (NS.of s).Lt := fun _ _ => wordsOf_lt _ _

theorem NS.ownedTo_zero (N : NS) (k n : Nat) : N.ownedTo k n 0 = N := by
  unfold NS.ownedTo
  simp
theorem NS.ownedTo_wd (N : NS) (k n m : Nat) : (N.ownedTo k n m).wd m (k / 64) = N.wd m (k / 64) := by
  unfold NS.ownedTo
  simp
theorem NS.ownedTo_other (N : NS) (k n m : Nat) (h : m ≠ n) : (N.ownedTo k n m).setW m (k / 64) (without (N.wd m (k / 64)) (2 ^ (k % 64))) = N.ownedTo k n (m + 1) := by
  unfold NS.ownedTo NS.setW
  congr 1
  funext j i
  by_cases hj : j = m
  · subst hj
    by_cases hi : i = k / 64
    · subst hi; simp [h]
    · simp [hi]
  · by_cases hi : i = k / 64
    · by_cases hl : j < m
      · simp [hj, hi, hl, Nat.lt_succ_of_lt hl]
      · have hl2 : ¬ j < m + 1 := by omega
        simp [hj, hi, hl, hl2]
    · simp [hj, hi]
theorem NS.ownedTo_own (N : NS) (k m : Nat) : ((N.ownedTo k m m).setW m (k / 64) (without (N.wd m (k / 64)) (2 ^ (k % 64)))).setW m (k / 64) (without (N.wd m (k / 64)) (2 ^ (k % 64)) ||| 2 ^ (k % 64)) = N.ownedTo k m (m + 1) := by
  unfold NS.ownedTo NS.setW
  congr 1
  funext j i
  by_cases hj : j = m
  · subst hj
    by_cases hi : i = k / 64
    · subst hi; simp
    · simp [hi]
  · by_cases hi : i = k / 64
    · by_cases hl : j < m
      · simp [hj, hi, hl, Nat.lt_succ_of_lt hl]
      · have hl2 : ¬ j < m + 1 := by omega
        simp [hj, hi, hl, hl2]
    · simp [hj, hi]

set_option maxRecDepth 100000 in
set_option maxHeartbeats 1600000 in
theorem rowned_any {w : World} {B g cap self : Nat} {cur : Int} {N : NS} (h : RN w B g cap N) (hL : N.Lt) (k n : Nat) (hk : k < 16384) (hn : n < 64) :
    Calls Try.prog 54 #[refVal self g cap cur, .int .i64 k, .int .i64 n] w fun e w' => e = .returned (refVal self g cap cur) ∧ RN w' B g cap (N.ownedTo k n 64) ∧ Only w w' g := by
  have hgl := h.lt.2
  have hb2 := below2 w (.cells #[.int .i64 (self : Int), .slice (some ⟨g, 0, none⟩) 64 cap, .int .u64 cur] 33) (.cells #[.int .i64 0, .slice none 0 0, .int .u64 0] 33)
  have hr2 := h.belowN hb2 hgl
  have HR := Lib.hid hr2
  have HB2 := Lib.hid hb2
  have HBx : Hid (Box ((w.alloc (.cells #[.int .i64 (self : Int), .slice (some ⟨g, 0, none⟩) 64 cap, .int .u64 cur] 33)).alloc (.cells #[.int .i64 0, .slice none 0 0, .int .u64 0] 33)) (w.heap.size + 1) (.int .i64 0) (.slice none 0 0) (.int .u64 0)) := box2 _ _ _ _ _
  have HA : Hid (Box ((w.alloc (.cells #[.int .i64 (self : Int), .slice (some ⟨g, 0, none⟩) 64 cap, .int .u64 cur] 33)).alloc (.cells #[.int .i64 0, .slice none 0 0, .int .u64 0] 33)) w.heap.size (.int .i64 (self : Int)) (.slice (some ⟨g, 0, none⟩) 64 cap) (.int .u64 cur)) := ⟨by
    rw [Below.heap_alloc _ _ _ (by simp)]
    exact heap_alloc_new w _⟩
  unfold refVal
  generalize hw2 : (w.alloc (.cells #[.int .i64 (self : Int), .slice (some ⟨g, 0, none⟩) 64 cap, .int .u64 cur] 33)).alloc (.cells #[.int .i64 0, .slice none 0 0, .int .u64 0] 33) = w2 at *
  have HW2 := Lib.hid hw2
  obtain ⟨q, hq⟩ : ∃ q, q = k / 64 := ⟨_, rfl⟩
  obtain ⟨r, hr⟩ : ∃ r, r = k % 64 := ⟨_, rfl⟩
  have hqi : ((k : Int).tdiv 64) = q := by rw [hq]; exact tdiv64 k
  have hri : ((k : Int).tmod 64) = r := by rw [hr]; exact tmod64 k
  have hq2 : (0 : Int) ≤ q ∧ (q : Int) < 256 := by omega
  have hr64 : r < 64 := by omega
  obtain ⟨P, hP⟩ : ∃ P, P = 2 ^ r := ⟨_, rfl⟩
  have hpw : IntKind.u64.wrap (2 ^ r) = (P : Int) := by rw [hP]; exact pow_word r hr64
  have hPl : P < 18446744073709551616 := by rw [hP]; exact pow_lt64 r hr64
  have hqw : IntKind.i64.wrap (q : Int) = q := wrap64_id (by omega) (by omega)
  have HP := Lib.hid hP
  clear hP
  have hni : (0 : Int) ≤ (n : Int) ∧ (n : Int) < 64 := by omega
  have HQ := Lib.hid hq
  have HRr := Lib.hid hr
  clear h hb2 hr2 hw2 hq hr
  go_enter Try.func54, Try.ntmps54
  go_upto_region 1 with fail
  rw [HW2.out]
  go_wp2_with fail
  go_loopw [8] (fun c wr => ∃ m : Nat, m ≤ 64 ∧ c = .int .i64 m ∧ Box wr w.heap.size (.int .i64 (self : Int)) (.slice (some ⟨g, 0, none⟩) 64 cap) (.int .u64 cur) ∧ Box wr (w.heap.size + 1) (.int .i64 0) (.slice none 0 0) (.int .u64 0) ∧ RN wr B g cap (N.ownedTo k n m) ∧ Only w wr g) (fun c _ => 64 - (intOf c).toNat)
  case atStart => exact ⟨0, Nat.zero_le _, rfl, HA.out, HBx.out, by rw [NS.ownedTo_zero]; exact HR.out, below_only HB2.out g⟩
  case round =>
    obtain ⟨m, hm, rfl, hxa, hxb, hrn, ho⟩ := hrel
    have HXa := Lib.hid hxa
    have HXb := Lib.hid hxb
    have HRn := Lib.hid hrn
    have HO := Lib.hid ho
    have a1 := hxa.cell1
    by_cases hlt : m < 64
    · have hmi : (0 : Int) ≤ (m : Int) ∧ (m : Int) < 64 := by omega
      have hrd := hrn.drew
      have e0 : wr.drew.cell? ⟨g, m * 257 + 1 + q, none⟩ = some (.int .u64 (N.wd m q : Int)) := by
        have := hrd.word m q hlt (by omega)
        rw [HQ.out, NS.ownedTo_wd] at this
        rw [HQ.out]
        exact this
      have z0 : wr.drew.frozen? ⟨g, m * 257 + 1 + q, none⟩ = false := hrd.free _
      have a1' := hxa.drew.cell1
      have hx := hL m q
      have HSet := Lib.hid (hrd.setW m q (without (N.wd m q) P) hlt (by omega))
      have HXad := Lib.hid hxa.drew
      have HXbd := Lib.hid hxb.drew
      have HOd := Lib.hid ho.drew
      have HOther := Lib.hid (N.ownedTo_other k n m)
      have HOwn := Lib.hid (N.ownedTo_own k m)
      rw [← HQ.out, ← HRr.out, ← HP.out] at HOther HOwn
      generalize hX : N.wd m q = x at *
      have hwo := without_word x P hx hPl
      clear hxa hxb hrn ho hrd
      go_wp2_with fail
      go_still_tail 19, (by kernel_rfl)
      change wpList _ _ _ _ _ wr.drew
      generalize wr.drew = wd at *
      have hs1 := HSet.out
      have hoS : Only wd (wd.setCell ⟨g, m * 257 + 1 + q, none⟩ (.int .u64 (without x P : Nat))) g := Only.setCell _ _ _ _
      have HXa1 := Lib.hid (HXad.out.only hoS (by omega))
      have HXb1 := Lib.hid (HXbd.out.only hoS (by omega))
      have HO1 := Lib.hid (HOd.out.trans hoS)
      by_cases hmn : m = n
      · subst hmn
        have hmnb : ((m : Int) == (m : Int)) = true := beq_self_eq_true _
        clear hX
        have hl := without_lt x P hx
        have hoo : bits .or .u64 ((without x P : Nat) : Int) (P : Int) = ((without x P ||| P : Nat) : Int) := u64_or_nat _ _ hl hPl
        have hcell : (wd.setCell ⟨g, m * 257 + 1 + q, none⟩ (.int .u64 (without x P : Nat))).cell? ⟨g, m * 257 + 1 + q, none⟩ = some (.int .u64 ((without x P : Nat) : Int)) := by
          rw [hs1.word m q hlt (by omega)]
          unfold NS.setW
          simp
        have hfree := hs1.free (m * 257 + 1 + q)
        have HSet2 := Lib.hid (hs1.drew.setW m q (without x P ||| P) hlt (by omega))
        generalize without x P = y at *
        go_upto_region 7 with fail
        have f1 := HXa1.out.drew.cell1
        generalize wd.setCell ⟨g, m * 257 + 1 + q, none⟩ (.int .u64 (y : Int)) = ws at *
        have f2 : ws.drew.cell? ⟨g, m * 257 + 1 + q, none⟩ = some (.int .u64 (y : Int)) := hcell
        have f3 : ws.drew.frozen? ⟨g, m * 257 + 1 + q, none⟩ = false := hfree
        go_still_tail 19, (by kernel_rfl)
        change wpList _ _ _ _ _ ws.drew
        have HXa2 := Lib.hid HXa1.out.drew
        have HXb2 := Lib.hid HXb1.out.drew
        have HO2 := Lib.hid HO1.out.drew
        clear hs1 hoS hcell hfree
        generalize ws.drew = wt at *
        have hoT : Only wt (wt.setCell ⟨g, m * 257 + 1 + q, none⟩ (.int .u64 (y ||| P : Nat))) g := Only.setCell _ _ _ _
        have HXa3 := Lib.hid (HXa2.out.only hoT (by omega))
        have HXb3 := Lib.hid (HXb2.out.only hoT (by omega))
        have HO3 := Lib.hid (HO2.out.trans hoT)
        clear hoT
        go_wp2
        go_roundw
        case rel => exact ⟨m + 1, by omega, by go_num, HXa3.out, HXb3.out, by rw [← HOwn.out]; exact HSet2.out, HO3.out⟩
        case measure => simp [intOf]; omega
      · have hmnb : ((m : Int) == (n : Int)) = false := by rw [beq_eq_false_iff_ne]; omega
        have hE := Lib.hid (HOther.out hmn)
        clear hs1 hoS
        go_wp2
        go_roundw
        case rel => exact ⟨m + 1, by omega, by go_num, HXa1.out, HXb1.out, by rw [← hE.out]; exact HSet.out, HO1.out⟩
        case measure => simp [intOf]; omega
    · have hm2 : m = 64 := by omega
      subst hm2
      have a0 := hxa.cell0
      have a2 := hxa.cell2
      have b0 := hxb.cell0
      have b1 := hxb.cell1
      have b2 := hxb.cell2
      have zb0 := hxb.free 0
      have zb1 := hxb.free 1
      have zb2 := hxb.free 2
      clear hxa hxb hrn ho
      go_wp2
      refine bodyPost_ret (results_box1 (p := 6) rfl (HXb.out.set _ _ _) _ rfl) rfl ?_
      exact ⟨rfl, HRn.out.only (Box.onlySet _ _ _ _ _) (by omega), HO.out.fresh (Box.onlySet _ _ _ _ _) (by omega)⟩
end Go.Proofs.Ytlccbgjlinlioaa
