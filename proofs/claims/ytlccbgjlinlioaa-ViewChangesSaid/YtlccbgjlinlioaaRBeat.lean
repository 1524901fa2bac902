/- The document's beaten. -/
import Derived.Test.YtlccbgjlinlioaaRRight
namespace Go.Proofs.Ytlccbgjlinlioaa
open Go.RowKit

theorem slotsTo_split (c : Nat → Nat) (k n : Nat) (hk : k < n) (hb : hasBit c k = true) : ∃ r, slotsTo c n = slotsTo c k ++ k :: r := by
  unfold slotsTo
  have e : List.range n = List.range k ++ (k :: (List.range (n - k - 1)).map (k + 1 + ·)) := by
    have h1 := List.range_add (n := k) (m := n - k)
    rw [show k + (n - k) = n by omega] at h1
    rw [h1, show n - k = (n - k - 1) + 1 by omega, List.range_succ_eq_map]
    simp [Nat.add_assoc, Nat.add_comm 1]
  rw [e, List.filter_append, List.filter_cons, if_pos hb]
  exact ⟨_, rfl⟩

/-- where beaten's walk stands -/
structure RbS (w : World) (B g cap me : Nat) (cur : Int) (p : PK) (N : NS) (u : World) : Prop where
  box : Box u w.heap.size (.int .i64 (me : Int)) (.slice (some ⟨g, 0, none⟩) 64 cap) (.int .u64 cur)
  pkt : PktAt u (w.heap.size + 1) p
  rn : RN u B g cap N
  bel : Below w.heap.size w u
  size : w.heap.size + 1 < u.heap.size
theorem RbS.below {w : World} {B g cap me : Nat} {cur : Int} {p : PK} {N : NS} {u u' : World} (h : RbS w B g cap me cur p N u) (hb : Below u.heap.size u u') : RbS w B g cap me cur p N u' :=
  ⟨h.box.below hb h.box.lt, (hb.block _ h.size).trans h.pkt, h.rn.below hb, h.bel.trans (hb.mono h.bel.size), Nat.lt_of_lt_of_le h.size hb.size⟩

set_option maxRecDepth 100000 in
set_option maxHeartbeats 1600000 in
theorem rbeaten_any {w : World} {B g cap : Nat} {s : VS} (h : RN w B g cap (NS.of s)) {M : Int} (hok : s.Ok M) {p : PK} (hp : p.Ok) :
    Calls Try.prog 53 #[refVal s.self g cap s.cur, p.val] w fun e w' => e = .returned (.int .i64 (s.beaten p)) ∧ Below w.heap.size w w' := by
  have hgl := h.lt.2
  have HOw := Lib.hid fun (u : World) (hu : RN u B g cap (NS.of s)) (n : Int) => rowner_any hu hok n
  unfold refVal at *
  have hb2 : Below w.heap.size w ((w.alloc (.cells #[.int .i64 (s.self : Int), .slice (some ⟨g, 0, none⟩) 64 cap, .int .u64 s.cur] 33)).alloc (.cells p.cells.toArray 29)) := below2 _ _ _
  have hrb : RbS w B g cap s.self s.cur p (NS.of s) ((w.alloc (.cells #[.int .i64 (s.self : Int), .slice (some ⟨g, 0, none⟩) 64 cap, .int .u64 s.cur] 33)).alloc (.cells p.cells.toArray 29)) := by
    refine ⟨⟨?_⟩, ?_, h.belowN hb2 hgl, hb2, by simp⟩
    · rw [Below.heap_alloc _ _ _ (by simp)]
      exact heap_alloc_new w _
    · unfold PktAt
      have := heap_alloc_new (w.alloc (.cells #[.int .i64 (s.self : Int), .slice (some ⟨g, 0, none⟩) 64 cap, .int .u64 s.cur] 33)) (.cells p.cells.toArray 29)
      simpa using this
  unfold PK.val
  generalize p.cells.toArray = PC at *
  generalize s.self = self at *
  generalize s.cur = cur at *
  generalize hw2 : (w.alloc (.cells #[.int .i64 (self : Int), .slice (some ⟨g, 0, none⟩) 64 cap, .int .u64 cur] 33)).alloc (.cells PC 29) = w2 at *
  have HW2 := Lib.hid hw2
  have HS0 := Lib.hid hrb
  have HOK := Lib.hid hok
  have HP := Lib.hid hp
  have HBt : Hid (s.beaten p = (slotsTo p.c 16384).foldl (fun f k => s.beatSlot p.frm p.ep f k) (-1)) := rfl
  clear hw2 hb2 hrb h hok hp
  go_enter Try.func53, Try.ntmps53
  go_upto_region 1 with fail
  rw [HW2.out]
  go_wp2_with fail
  go_loopw [5] (fun c wx => ∃ k : Nat, k ≤ 16384 ∧ c = .int .i64 k ∧ (∀ j, j < k → hasBit p.c j = true → ¬ s.stands p.frm p.ep j) ∧ RbS w B g cap self cur p (NS.of s) wx) (fun c _ => 16384 - (intOf c).toNat)
  case atStart => exact ⟨0, Nat.zero_le _, rfl, fun j hj => absurd hj (by omega), HS0.out⟩
  case round =>
    obtain ⟨k, hk, rfl, hno, hs⟩ := hrel
    have HNo := Lib.hid hno
    have HS := Lib.hid hs
    clear hno
    by_cases hlt : k < 16384
    · obtain ⟨q, hq⟩ : ∃ q, q = k / 64 := ⟨_, rfl⟩
      obtain ⟨r, hr⟩ : ∃ r, r = k % 64 := ⟨_, rfl⟩
      have hqi : ((k : Int).tdiv 64) = q := by rw [hq]; exact tdiv64 k
      have hri : ((k : Int).tmod 64) = r := by rw [hr]; exact tmod64 k
      have hq2 : (0 : Int) ≤ q ∧ (q : Int) < 256 := by omega
      have hr64 : r < 64 := by omega
      have hki : (0 : Int) ≤ (k : Int) ∧ (k : Int) < 16384 := by omega
      have e0 := hs.pkt.word q (by omega)
      have hb : (p.c q).testBit r = hasBit p.c k := by rw [hq, hr]; rfl
      have hbz := bit_zero (p.c q) r (HP.out.lt q)
      rw [hb] at hbz
      generalize p.c q = x at *
      have hin : inSlot k = true := decide_eq_true (by omega)
      have HO : Hid (s.owner k = s.own k) := by unfold VS.owner; rw [if_pos hin, Int.toNat_natCast]; exact rfl
      have a0 := hs.box.cell0
      have a1 := hs.box.cell1
      have a2 := hs.box.cell2
      have HCall := Lib.hid (HOw.out wr hs.rn k)
      rw [HO.out] at HCall
      clear hq hr hs hb hin
      cases hbt : hasBit p.c k with
      | false =>
        rw [hbt] at hbz
        have HNx : Hid (∀ j, j < k + 1 → hasBit p.c j = true → ¬ s.stands p.frm p.ep j) := fun j hj hjb => by
          by_cases e : j = k
          · subst e
            rw [hbt] at hjb
            cases hjb
          · exact HNo.out j (by omega) hjb
        clear hbt
        go_wp2
        go_roundw
        case rel => exact ⟨k + 1, by omega, by go_num, HNx.out, HS.out⟩
        case measure => simp [intOf]; omega
      | true =>
        rw [hbt] at hbz
        have HBt2 := Lib.hid hbt
        clear hbt
        go_wp2_with fail
        refine HCall.out.mono ?_
        rintro e w5 ⟨rfl, hb5⟩
        have hs5 := HS.out.below hb5
        have HS5 := Lib.hid hs5
        have c1 := hs5.pkt.frm
        have c3 := hs5.pkt.ep
        have c4 := hs5.box.cell1
        have ho := HOK.out.own k
        have HNone : Hid (∀ (hst : ¬ s.stands p.frm p.ep k) (j : Nat), j < k + 1 → hasBit p.c j = true → ¬ s.stands p.frm p.ep j) := fun hst j hj hjb => by
          by_cases e : j = k
          · subst e; exact hst
          · exact HNo.out j (by omega) hjb
        clear hb5 a0 a1 a2
        by_cases ho1 : s.own k = -1
        · have HE := Lib.hid (HNone.out (fun hst => hst.1 ho1))
          rw [ho1]
          clear ho ho1 hs5
          go_wp2_with fail
          go_quiet (fail)
          go_wp2
          go_roundw
          case rel => exact ⟨k + 1, by omega, by go_num, HE.out, HS5.out.below (below_drewN (Below.refl _ _) _)⟩
          case measure => simp [intOf]; omega
        · obtain ⟨o, hoN⟩ : ∃ o : Nat, s.own k = o := ⟨(s.own k).toNat, by omega⟩
          have hoi : (0 : Int) ≤ (o : Int) ∧ (o : Int) < 64 := by omega
          rw [hoN]
          by_cases ho2 : (o : Int) = p.frm
          · have HE := Lib.hid (HNone.out (fun hst => hst.2.1 (by rw [hoN]; exact ho2)))
            have hfb : ((o : Int) != (o : Int)) = false := by simp
            rw [← ho2] at c1
            clear ho ho1 hs5 hoN ho2
            go_wp2_with fail
            go_quiet (fail)
            go_wp2
            go_roundw
            case rel => exact ⟨k + 1, by omega, by go_num, HE.out, HS5.out.below (below_drewN (Below.refl _ _) _)⟩
            case measure => simp [intOf]; omega
          · have hfb : ((o : Int) != p.frm) = true := by simp [ho2]
            have c5 := hs5.rn.ep o (by omega)
            have hepe : (NS.of s).ep o = s.ep o := rfl
            rw [hepe] at c5
            by_cases hgt : p.ep < s.ep o
            · have hst : s.stands p.frm p.ep k := ⟨by rw [hoN]; omega, by rw [hoN]; exact ho2, by rw [hoN, Int.toNat_natCast]; exact hgt⟩
              obtain ⟨rr, hrr⟩ := slotsTo_split p.c k 16384 hlt HBt2.out
              have HFin : Hid (s.beaten p = o) := by
                rw [HBt.out, hrr, beatFold_first s p.frm p.ep _ k rr (fun j hj => HNo.out j (mem_slotsTo.1 hj).1 (mem_slotsTo.1 hj).2) hst]
                exact hoN
              generalize s.ep o = eo at *
              clear ho ho1 hs5 hst hrr hoN hepe
              go_wp2_with fail
              go_quiet (fail)
              go_wp2
              go_ret
              exact ⟨by rw [HFin.out]; rfl, (HS5.out.below (below_drewN (Below.refl _ _) _)).bel⟩
            · have HE := Lib.hid (HNone.out (fun hst => hgt (by have := hst.2.2; rw [hoN, Int.toNat_natCast] at this; exact this)))
              generalize s.ep o = eo at *
              have hgd : decide (p.ep < eo) = false := decide_eq_false hgt
              clear ho ho1 hs5 hoN hepe hgt
              go_wp2_with fail
              go_quiet (fail)
              go_wp2
              go_roundw
              case rel => exact ⟨k + 1, by omega, by go_num, HE.out, HS5.out.below (below_drewN (Below.refl _ _) _)⟩
              case measure => simp [intOf]; omega
    · have hk2 : k = 16384 := by omega
      subst hk2
      have HFin : Hid (s.beaten p = -1) := by
        rw [HBt.out]
        exact beatFold_none s p.frm p.ep _ fun j hj => HNo.out j (mem_slotsTo.1 hj).1 (mem_slotsTo.1 hj).2
      clear hs
      go_wp2
      go_ret
      exact ⟨by rw [HFin.out]; rfl, HS.out.bel⟩
end Go.Proofs.Ytlccbgjlinlioaa
