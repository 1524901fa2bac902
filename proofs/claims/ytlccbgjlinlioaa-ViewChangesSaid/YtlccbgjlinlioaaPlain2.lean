/- Plain laws: a packet that comes twice; who loses a slot; what is won. -/
import Derived.Test.YtlccbgjlinlioaaRDo
namespace Go.Proofs.Ytlccbgjlinlioaa
open Go.RowKit

theorem VS.ext' {s t : VS} (h1 : s.self = t.self) (h2 : ∀ k, s.own k = t.own k) (h3 : ∀ j, s.ep j = t.ep j) (h4 : s.cur = t.cur) : s = t := by
  obtain ⟨a, b, c, d⟩ := s
  obtain ⟨a', b', c', d'⟩ := t
  simp only at h1 h2 h3 h4
  rw [h1, h4, funext h2, funext h3]

theorem claim_own_out (s : VS) (n : Nat) (e : Int) (c : Nat → Nat) (k : Nat) (hk : ¬ k < 16384) : (s.claim n e c).own k = s.own k := by
  unfold VS.claim
  rw [claimFold_own n e _ _ (by unfold VS.dropTo; simp) k, if_neg (fun h => hk (mem_slotsTo.1 h).1)]
  unfold VS.dropTo
  simp [hk]

theorem setCur_self_cur (s : VS) {v : Int} (h : s.cur = v) : s.setCur v = s := by subst h; rfl

theorem PK.who_ne {s : VS} {p : PK} (h : s.refuses p = false) : p.who ≠ s.self := by
  obtain ⟨h1, _, h3, h4⟩ := VS.taken h
  obtain ⟨f1, _, f3⟩ := PK.right_facts h1
  unfold PK.who
  split
  · rename_i hk
    have := f3 hk
    intro e
    exact h4 ⟨hk, by omega⟩
  · intro e
    exact h3 (by omega)

/-- a claim that has been taken in changes nothing -/
theorem claim_settled {s t : VS} {n : Nat} {e : Int} {c : Nat → Nat} (h1 : ∀ k, t.own k = (s.claim n e c).own k) (h3 : ∀ j, (s.claim n e c).ep j ≤ t.ep j) (k : Nat) : (t.claim n e c).own k = t.own k := by
  by_cases hk : k < 16384
  · rw [claim_own t n e c k hk]
    have ho := h1 k
    rw [claim_own s n e c k hk] at ho
    have hep := h3 (s.own k).toNat
    rw [claim_ep] at hep
    simp only at hep
    by_cases hb : hasBit c k = true
    · rw [if_pos hb] at ho ⊢
      by_cases hc : s.own k = -1 ∨ (if (s.own k).toNat = n then e else s.ep (s.own k).toNat) < e
      · rw [if_pos hc] at ho
        rw [ho, ite_self]
      · rw [if_neg hc] at ho
        rw [ho, if_neg]
        rintro (h | h)
        · exact hc (.inl h)
        · refine hc (.inr ?_)
          by_cases hn : (s.own k).toNat = n
          · rw [if_pos hn] at h; omega
          · rw [if_neg hn] at h hep ⊢; omega
    · rw [if_neg hb] at ho ⊢
      by_cases hn : s.own k = n
      · rw [if_pos hn] at ho
        rw [ho, if_neg (by omega)]
      · rw [if_neg hn] at ho
        rw [ho, if_neg hn]
  · exact claim_own_out t n e c k hk

theorem took_settled {t : VS} {p : PK} {n : Nat} (h1 : p.cur ≤ t.cur) (h2 : t.ep n ≤ p.ep → t.ep n = p.ep ∧ ∀ k, (t.claim n p.ep p.c).own k = t.own k) : t.took p n = t := by
  have hc : t.setCur (max t.cur p.cur) = t := setCur_self_cur t (by omega)
  unfold VS.took
  rw [hc]
  split
  · rename_i he
    obtain ⟨h3, h4⟩ := h2 he
    refine VS.ext' (claim_self _ _ _ _) h4 (fun j => ?_) (claim_cur _ _ _ _)
    rw [claim_ep]
    simp only
    split
    · rename_i hj; subst hj; exact h3.symm
    · rfl
  · rfl

theorem raised_own (s : VS) (p : PK) (n k : Nat) : (s.raised p n).own k = s.own k := by unfold VS.raised; split <;> rfl
theorem raised_ep (s : VS) (p : PK) (n j : Nat) (h : j ≠ s.self) : (s.raised p n).ep j = s.ep j := by
  unfold VS.raised
  split
  · unfold VS.raise VS.setEp VS.setCur
    simp [h]
  · rfl
theorem raised_le {s : VS} {M : Int} (hok : s.Ok M) (p : PK) (n j : Nat) : s.ep j ≤ (s.raised p n).ep j := by
  have := hok.ep j
  unfold VS.raised
  split
  · unfold VS.raise VS.setEp VS.setCur
    simp only
    split <;> omega
  · exact Int.le_refl _
theorem raised_cur (s : VS) (p : PK) (n : Nat) : s.cur ≤ (s.raised p n).cur := by
  unfold VS.raised
  split
  · show s.cur ≤ s.cur + 1; omega
  · exact Int.le_refl _

/-- what has been taken in, and any rise behind it, is settled -/
theorem took_again {s t : VS} {p : PK} {n : Nat} (h1 : (s.took p n).cur ≤ t.cur) (h2 : ∀ k, t.own k = (s.took p n).own k) (h3 : t.ep n = (s.took p n).ep n) (h4 : ∀ j, (s.took p n).ep j ≤ t.ep j) : t.took p n = t := by
  have hcur := took_cur s p n
  refine took_settled (by omega) fun he => ?_
  unfold VS.took at h2 h3 h4
  by_cases hc : s.ep n ≤ p.ep
  · simp only [if_pos hc] at h2 h3 h4
    have h5 : t.ep n = p.ep := by rw [h3, claim_ep]; simp
    exact ⟨h5, claim_settled h2 h4⟩
  · simp only [if_neg hc] at h3
    have : t.ep n = s.ep n := h3
    omega

theorem takeD_refuses (s : VS) (p : PK) : (s.takeD p).refuses p = s.refuses p := by
  unfold VS.refuses
  rw [takeD_self]

theorem takeD_again {s : VS} {M : Int} (hok : s.Ok M) (hM : 4611686018427387904 ≤ M) {p : PK} (hp : p.Ok) : (s.takeD p).takeD p = s.takeD p ∧ (s.takeD p).takeL p = s.takeL p := by
  cases hr : s.refuses p with
  | true =>
    have e : s.takeD p = s := by unfold VS.takeD; rw [if_pos hr]
    rw [e]
    exact ⟨e, rfl⟩
  | false =>
    obtain ⟨h1, h2, h3, h4⟩ := VS.taken hr
    obtain ⟨f1, f2, f3⟩ := PK.right_facts h1
    have hw := PK.who_lt h1
    have hne := PK.who_ne hr
    have hok1 := hok.took hM hp h2 f2 p.who hw
    have hr2 := (takeD_refuses s p).trans hr
    have hself : (s.took p p.who).self = s.self := took_self _ _ _
    have hcur := took_cur s p p.who
    have hne2 : p.who ≠ (s.took p p.who).self := by rw [hself]; exact hne
    by_cases hk : p.kind = 3
    · have e : s.takeD p = s.took p p.who := by unfold VS.takeD; rw [if_neg (by rw [hr]; decide), if_pos hk]
      rw [e] at hr2 ⊢
      have e1 : (s.took p p.who).took p p.who = s.took p p.who := took_again (Int.le_refl _) (fun _ => rfl) rfl fun _ => Int.le_refl _
      constructor
      · unfold VS.takeD
        rw [if_neg (by rw [hr2]; decide), if_pos hk, e1]
      · unfold VS.takeL
        rw [if_neg (by rw [hr2]; decide), if_pos hk, if_neg (by rw [hr]; decide), if_pos hk]
    · have e : s.takeD p = (s.took p p.who).raised p p.who := by unfold VS.takeD; rw [if_neg (by rw [hr]; decide), if_neg hk]
      rw [e] at hr2 ⊢
      have e1 : ((s.took p p.who).raised p p.who).took p p.who = (s.took p p.who).raised p p.who :=
        took_again (raised_cur _ _ _) (fun k => raised_own _ _ _ k) (raised_ep _ _ _ _ hne2) fun j => raised_le hok1 _ _ j
      have e2 : ((s.took p p.who).raised p p.who).raised p p.who = (s.took p p.who).raised p p.who := by
        by_cases hc : p.ep = (s.took p p.who).ep (s.took p p.who).self ∧ (s.took p p.who).self < p.who
        · have e3 : (s.took p p.who).raised p p.who = (s.took p p.who).raise := by unfold VS.raised; rw [if_pos hc]
          rw [e3]
          have hx : (s.took p p.who).raise.ep (s.took p p.who).raise.self = (s.took p p.who).cur + 1 := by
            show (if (s.took p p.who).self = (s.took p p.who).self then (s.took p p.who).cur + 1 else _) = _
            rw [if_pos rfl]
          unfold VS.raised
          rw [if_neg]
          rintro ⟨hh, _⟩
          rw [hx] at hh
          omega
        · have e3 : (s.took p p.who).raised p p.who = s.took p p.who := by unfold VS.raised; rw [if_neg hc]
          rw [e3]
          exact e3
      constructor
      · unfold VS.takeD
        rw [if_neg (by rw [hr2]; decide), if_neg hk, e1, e2]
      · unfold VS.takeL
        rw [if_neg (by rw [hr2]; decide), if_neg hk, if_neg (by rw [hr]; decide), if_neg hk, e1, e2]

/-- whose claims a packet tells, as the law reckons it -/
def PK.tells (p : PK) : Int := if p.kind = 3 then p.of else p.frm
/-- what becomes of a slot that node n owned -/
theorem takeD_slot (s : VS) (p : PK) (n : Nat) (hn : n < 64) (k : Nat) (hk : k < 16384) (ho : s.own k = n) :
    (s.takeD p).own k = n ∨ ((s.takeD p).own k = -1 ∧ (n : Int) = p.tells ∧ hasBit p.c k = false) ∨ (0 ≤ (s.takeD p).own k ∧ (s.takeD p).own k < 64 ∧ (s.takeD p).own k ≠ n ∧ s.ep n < (s.takeD p).ep ((s.takeD p).own k).toNat) := by
  cases hr : s.refuses p with
  | true =>
    have e : s.takeD p = s := by unfold VS.takeD; rw [if_pos hr]
    rw [e]
    exact .inl ho
  | false =>
    obtain ⟨h1, h2, h3, h4⟩ := VS.taken hr
    obtain ⟨f1, f2, f3⟩ := PK.right_facts h1
    have hw := PK.who_lt h1
    have hne := PK.who_ne hr
    have hself : (s.took p p.who).self = s.self := took_self _ _ _
    have hwt : (p.who : Int) = p.tells := by
      unfold PK.who PK.tells
      split
      · rename_i hk3; have := f3 hk3; omega
      · omega
    have hown : (s.takeD p).own k = (s.took p p.who).own k := by
      unfold VS.takeD
      rw [if_neg (by rw [hr]; decide)]
      split
      · rfl
      · exact raised_own _ _ _ _
    have hepw : (s.takeD p).ep p.who = (s.took p p.who).ep p.who := by
      unfold VS.takeD
      rw [if_neg (by rw [hr]; decide)]
      split
      · rfl
      · exact raised_ep _ _ _ _ (by rw [hself]; exact hne)
    rw [hown]
    unfold VS.took at hepw ⊢
    by_cases hc : s.ep p.who ≤ p.ep
    · rw [if_pos hc] at hepw ⊢
      rw [claim_ep] at hepw
      simp only [if_true] at hepw
      have hco := claim_own (s.setCur (max s.cur p.cur)) p.who p.ep p.c k hk
      have e1 : (s.setCur (max s.cur p.cur)).own k = s.own k := rfl
      have e2 : (s.setCur (max s.cur p.cur)).ep = s.ep := rfl
      rw [e1, e2, ho, Int.toNat_natCast] at hco
      by_cases hb : hasBit p.c k = true
      · rw [if_pos hb] at hco
        by_cases hx : (n : Int) = -1 ∨ (if n = p.who then p.ep else s.ep n) < p.ep
        · rw [if_pos hx] at hco
          rw [hco]
          by_cases hnw : n = p.who
          · left; omega
          · rw [if_neg hnw] at hx
            right; right
            rw [Int.toNat_natCast, hepw]
            refine ⟨by omega, by omega, by omega, ?_⟩
            rcases hx with hx | hx
            · omega
            · exact hx
        · rw [if_neg hx] at hco
          exact .inl hco
      · rw [if_neg hb] at hco
        by_cases hnw : (n : Int) = p.who
        · rw [if_pos hnw] at hco
          refine .inr (.inl ⟨hco, by omega, by simpa using hb⟩)
        · rw [if_neg hnw] at hco
          exact .inl hco
    · rw [if_neg hc]
      exact .inl ho

/-- a slot that is won -/
theorem win_own (s : VS) (k : Nat) (least : Int) : (s.win k least).own k = s.self := by
  show (if k = (k : Int).toNat then (s.self : Int) else _) = _
  rw [if_pos (by omega)]
theorem win_self (s : VS) (k least : Int) : (s.win k least).self = s.self := rfl
theorem win_cur (s : VS) (k least : Int) : (s.win k least).cur = max s.cur least + 1 := rfl
theorem win_ep (s : VS) (k least : Int) (j : Nat) : (s.win k least).ep j = if j = s.self then max s.cur least + 1 else s.ep j := rfl
end Go.Proofs.Ytlccbgjlinlioaa
