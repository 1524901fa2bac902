/- The document's Right, Owner. -/
import Derived.Test.YtlccbgjlinlioaaOwned
namespace Go.Proofs.Ytlccbgjlinlioaa
open Go.RowKit

set_option maxRecDepth 100000 in
set_option maxHeartbeats 1600000 in
theorem rright_any (p : PK) (w : World) : Calls Try.prog 49 #[p.val] w fun e w' => e = .returned (.bool p.right) ∧ Below w.heap.size w w' := by
  unfold PK.val
  have hb0 : PktAt (w.alloc (.cells p.cells.toArray 29)) w.heap.size p := heap_alloc_new w _
  have hbel : Below w.heap.size w (w.alloc (.cells p.cells.toArray 29)) := (Below.refl _ _).alloc (Nat.le_refl _) _
  generalize p.cells.toArray = PC at *
  have d0 := hb0.kind
  have d1 := hb0.frm
  have d2 := hb0.of
  have d3 := hb0.ep
  have d4 := hb0.cur
  have HBel := Lib.hid hbel
  have HR : Hid (p.right = (((decide (p.kind = 1 ∨ p.kind = 2 ∨ p.kind = 4) && decide (p.of = 0)) || (decide (p.kind = 3) && decide (0 ≤ p.of ∧ p.of < 64))) && (decide (0 ≤ p.frm ∧ p.frm < 64) && decide (p.ep ≤ p.cur)))) := rfl
  generalize p.right = RR at *
  generalize p.kind = kind at *
  generalize p.frm = frm at *
  generalize p.of = o at *
  generalize p.ep = ep at *
  generalize p.cur = cur at *
  clear hb0 hbel
  by_cases k1 : kind < 1
  · have HE := Lib.hid (show RR = false by rw [HR.out]; simp; omega)
    clear HR
    go_enter Try.func49, Try.ntmps49
    go_wp2
    go_ret
    exact ⟨by rw [HE.out]; rfl, HBel.out⟩
  · have k1d : decide (kind < 1) = false := decide_eq_false k1
    by_cases k2 : 4 < kind
    · have HE := Lib.hid (show RR = false by rw [HR.out]; simp; omega)
      clear HR k1
      go_enter Try.func49, Try.ntmps49
      go_wp2
      go_ret
      exact ⟨by rw [HE.out]; rfl, HBel.out⟩
    · have k2d : decide (4 < kind) = false := decide_eq_false k2
      by_cases k3 : frm < 0
      · have HE := Lib.hid (show RR = false by rw [HR.out]; simp; omega)
        clear HR k1 k2
        go_enter Try.func49, Try.ntmps49
        go_wp2
        go_ret
        exact ⟨by rw [HE.out]; rfl, HBel.out⟩
      · have k3d : decide (frm < 0) = false := decide_eq_false k3
        by_cases k4 : 63 < frm
        · have HE := Lib.hid (show RR = false by rw [HR.out]; simp; omega)
          clear HR k1 k2 k3
          go_enter Try.func49, Try.ntmps49
          go_wp2
          go_ret
          exact ⟨by rw [HE.out]; rfl, HBel.out⟩
        · have k4d : decide (63 < frm) = false := decide_eq_false k4
          by_cases k5 : cur < ep
          · have HE := Lib.hid (show RR = false by rw [HR.out]; simp; omega)
            clear HR k1 k2 k3 k4
            go_enter Try.func49, Try.ntmps49
            go_wp2
            go_ret
            exact ⟨by rw [HE.out]; rfl, HBel.out⟩
          · have k5d : decide (cur < ep) = false := decide_eq_false k5
            by_cases k6 : kind = 3
            · subst k6
              by_cases k7 : 0 ≤ o
              · have HE := Lib.hid (show RR = decide (o ≤ 63) by rw [HR.out]; simp [k7]; rw [Bool.eq_iff_iff]; simp; omega)
                clear HR k1 k2 k3 k4 k5
                go_enter Try.func49, Try.ntmps49
                go_wp2
                go_ret
                exact ⟨by rw [HE.out]; rfl, HBel.out⟩
              · have k7d : decide (0 ≤ o) = false := decide_eq_false k7
                have HE := Lib.hid (show RR = false by rw [HR.out]; simp; omega)
                clear HR k1 k2 k3 k4 k5 k7
                go_enter Try.func49, Try.ntmps49
                go_wp2
                go_ret
                exact ⟨by rw [HE.out]; rfl, HBel.out⟩
            · have k6d : (kind == 3) = false := by rw [beq_eq_false_iff_ne]; exact k6
              have HE := Lib.hid (show RR = (o == 0) by rw [HR.out]; rw [Bool.eq_iff_iff]; simp; omega)
              clear HR k1 k2 k3 k4 k5 k6
              go_enter Try.func49, Try.ntmps49
              go_wp2
              go_ret
              exact ⟨by rw [HE.out]; rfl, HBel.out⟩

theorem owns_bit (s : VS) (n k : Nat) : (wordsOf (s.owns n) (k / 64)).testBit (k % 64) = s.owns n k := wordsOf_has (s.owns n) k

/-- the first of the nodes that owns a slot -/
theorem owner_first (s : VS) (k m : Nat) (hm : s.owns m k = true) : s.own k = m := by
  unfold VS.owns at hm
  exact (of_decide_eq_true hm).1
theorem owner_none (s : VS) {M : Int} (hok : s.Ok M) (k : Nat) (h : ∀ m : Nat, m < 64 → s.owns m k = false) : s.own k = -1 := by
  have h1 := hok.own k
  rcases Decidable.em (s.own k = -1) with h2 | h2
  · exact h2
  · have h3 := h (s.own k).toNat (by omega)
    unfold VS.owns at h3
    have h4 := of_decide_eq_false h3
    exact absurd ⟨by omega, h2⟩ h4

set_option maxRecDepth 100000 in
set_option maxHeartbeats 1600000 in
theorem rowner_any {w : World} {B g cap : Nat} {s : VS} (h : RN w B g cap (NS.of s)) {M : Int} (hok : s.Ok M) (n : Int) :
    Calls Try.prog 23 #[refVal s.self g cap s.cur, .int .i64 n] w fun e w' => e = .returned (.int .i64 (s.owner n)) ∧ Below w.heap.size w w' := by
  unfold refVal
  generalize s.cur = cur at *
  have hgl := h.lt.2
  have hbel : Below w.heap.size w (w.alloc (.cells #[.int .i64 (s.self : Int), .slice (some ⟨g, 0, none⟩) 64 cap, .int .u64 cur] 33)) := (Below.refl _ _).alloc (Nat.le_refl _) _
  have hbx := box1 w (.int .i64 (s.self : Int)) (.slice (some ⟨g, 0, none⟩) 64 cap) (.int .u64 cur)
  have hrn := h.belowN hbel hgl
  generalize s.self = self at *
  generalize hw2 : w.alloc (.cells #[.int .i64 (self : Int), .slice (some ⟨g, 0, none⟩) 64 cap, .int .u64 cur] 33) = w2 at *
  have HW2 := Lib.hid hw2
  have HBel := Lib.hid hbel
  have HRn := Lib.hid hrn
  have HOK := Lib.hid hok
  have a1 := hbx.cell1
  clear hw2 hbel hrn h hbx hok
  by_cases n0 : n < 0
  · have HO : Hid (s.owner n = -1) := by unfold VS.owner; rw [if_neg (fun hh => by have := inSlot_true hh; omega)]; exact rfl
    go_enter Try.func23, Try.ntmps23
    go_upto_region 1 with fail
    rw [HW2.out]
    go_wp2
    go_ret
    exact ⟨by rw [HO.out]; rfl, HBel.out⟩
  · have n0d : decide (n < 0) = false := decide_eq_false n0
    by_cases n1 : 16383 < n
    · have HO : Hid (s.owner n = -1) := by unfold VS.owner; rw [if_neg (fun hh => by have := inSlot_true hh; omega)]; exact rfl
      clear n0
      go_enter Try.func23, Try.ntmps23
      go_upto_region 1 with fail
      rw [HW2.out]
      go_wp2
      go_ret
      exact ⟨by rw [HO.out]; rfl, HBel.out⟩
    · have n1d : decide (16383 < n) = false := decide_eq_false n1
      obtain ⟨k, rfl⟩ : ∃ k : Nat, n = k := ⟨n.toNat, by omega⟩
      have hk : k < 16384 := by omega
      have hin : inSlot k = true := decide_eq_true (by omega)
      have HO : Hid (s.owner k = s.own k) := by unfold VS.owner; rw [if_pos hin, Int.toNat_natCast]; exact rfl
      obtain ⟨q, hq⟩ : ∃ q, q = k / 64 := ⟨_, rfl⟩
      obtain ⟨r, hr⟩ : ∃ r, r = k % 64 := ⟨_, rfl⟩
      have hqi : ((k : Int).tdiv 64) = q := by rw [hq]; exact tdiv64 k
      have hri : ((k : Int).tmod 64) = r := by rw [hr]; exact tmod64 k
      have hq2 : (0 : Int) ≤ q ∧ (q : Int) < 256 := by omega
      have hr64 : r < 64 := by omega
      have HQ := Lib.hid hq
      have HRr := Lib.hid hr
      clear hq hr n0 n1 hin
      go_enter Try.func23, Try.ntmps23
      go_upto_region 1 with fail
      rw [HW2.out]
      go_wp2_with fail
      go_loopw [5] (fun c wx => ∃ m : Nat, m ≤ 64 ∧ c = .int .i64 m ∧ (∀ j, j < m → s.owns j k = false) ∧ w2 = wx) (fun c _ => 64 - (intOf c).toNat)
      case atStart => exact ⟨0, Nat.zero_le _, rfl, fun j hj => absurd hj (by omega), rfl⟩
      case round =>
        obtain ⟨m, hm, rfl, hno, rfl⟩ := hrel
        have HNo := Lib.hid hno
        clear hno
        by_cases hlt : m < 64
        · have hmi : (0 : Int) ≤ (m : Int) ∧ (m : Int) < 64 := by omega
          have e0 := HRn.out.word m q hlt (by omega)
          have hb : (wordsOf (s.owns m) q).testBit r = s.owns m k := by rw [HQ.out, HRr.out]; exact owns_bit s m k
          have hx : (NS.of s).wd m q < 18446744073709551616 := NS.of_lt s m q
          have hxe : (NS.of s).wd m q = wordsOf (s.owns m) q := rfl
          rw [hxe] at e0 hx
          have hbo := bit_one (wordsOf (s.owns m) q) r hx
          rw [hb] at hbo
          generalize wordsOf (s.owns m) q = x at *
          clear hb hxe
          cases hov : s.owns m k with
          | true =>
            rw [hov] at hbo
            have HOw := Lib.hid (owner_first s k m hov)
            clear hov
            go_wp2
            go_ret
            exact ⟨by rw [HO.out, HOw.out]; rfl, HBel.out⟩
          | false =>
            rw [hov] at hbo
            have HOv := Lib.hid hov
            clear hov
            go_wp2
            go_roundw
            case rel => exact ⟨m + 1, by omega, by go_num, fun j hj => by by_cases e : j = m; subst e; exact HOv.out; exact HNo.out j (by omega), trivial⟩
            case measure => simp [intOf]; omega
        · have hm2 : m = 64 := by omega
          subst hm2
          have HOw := Lib.hid (owner_none s HOK.out k HNo.out)
          go_wp2
          go_ret
          exact ⟨by rw [HO.out, HOw.out]; rfl, HBel.out⟩
end Go.Proofs.Ytlccbgjlinlioaa
