/- What the document's claim does to the nodes is what the code's claim does. -/
import Derived.Test.YtlccbgjlinlioaaRClaim
import Derived.Test.YtlccbgjlinlioaaRGive
namespace Go.Proofs.Ytlccbgjlinlioaa
open Go.RowKit

theorem owns_iff (s : VS) (j : Nat) (K : Nat) : s.owns j K = decide (s.own K = j) := by
  unfold VS.owns
  apply decide_eq_decide.2
  constructor
  · exact fun h => h.1
  · exact fun h => ⟨h, by omega⟩

theorem kept_bit (s : VS) (n : Nat) (e : Int) (i r : Nat) (hr : r < 64) : ∀ m, m ≤ 64 → ((((NS.of s).setEp n e).keptTo n e i m).testBit r = true ↔ ∃ o, o < m ∧ o ≠ n ∧ e ≤ s.ep o ∧ s.own (64 * i + r) = o) := by
  intro m
  induction m with
  | zero =>
    intro _
    unfold NS.keptTo
    simp
  | succ m ih =>
    intro hm
    have ih' := ih (by omega)
    have hw : (((NS.of s).setEp n e).wd m i).testBit r = decide (s.own (64 * i + r) = m) := by
      rw [← owns_iff]
      exact wordsOf_bit (s.owns m) i r hr
    unfold NS.keptTo
    by_cases hc : m ≠ n ∧ e ≤ ((NS.of s).setEp n e).ep m
    · have hep : e ≤ s.ep m := by
        have := hc.2
        unfold NS.setEp NS.of at this
        simpa [hc.1] using this
      rw [if_pos hc, Nat.testBit_or, Bool.or_eq_true, ih', hw, decide_eq_true_eq]
      constructor
      · rintro (⟨o, h1, h2⟩ | h)
        · exact ⟨o, by omega, h2⟩
        · exact ⟨m, by omega, hc.1, hep, h⟩
      · rintro ⟨o, h1, h2, h3, h4⟩
        by_cases hom : o = m
        · subst hom; exact .inr h4
        · exact .inl ⟨o, by omega, h2, h3, h4⟩
    · rw [if_neg hc, ih']
      constructor
      · rintro ⟨o, h1, h2⟩
        exact ⟨o, by omega, h2⟩
      · rintro ⟨o, h1, h2, h3, h4⟩
        by_cases hom : o = m
        · subst hom
          exact absurd ⟨h2, by unfold NS.setEp NS.of; simp only; rw [if_neg h2]; exact h3⟩ hc
        · exact ⟨o, by omega, h2, h3, h4⟩

theorem NS.of_bit (t : VS) (j i r : Nat) (hr : r < 64) : ((NS.of t).wd j i).testBit r = t.owns j (64 * i + r) := wordsOf_bit (t.owns j) i r hr
theorem NS.of_wd_lt (t : VS) (j i : Nat) : (NS.of t).wd j i < 18446744073709551616 := wordsOf_lt (t.owns j) i

theorem claimed_words (s : VS) {M : Int} (hok : s.Ok M) (n : Nat) (hn : n < 64) {p : PK} (hp : p.Ok) (j i : Nat) (hi : i < 256) :
    (((NS.of s).setEp n p.ep).claimTo n p 256 0).wd j i = (NS.of (s.claim n p.ep p.c)).wd j i := by
  have hML : ((NS.of s).setEp n p.ep).Lt := NS.of_lt s
  have hwl := NS.won_lt (M := (NS.of s).setEp n p.ep) n hp i
  have hxl := wordsOf_lt (s.owns j) i
  have hL : (((NS.of s).setEp n p.ep).claimTo n p 256 0).wd j i = if j = n then ((NS.of s).setEp n p.ep).won n p i else without (wordsOf (s.owns j) i) (((NS.of s).setEp n p.ep).won n p i) := by
    unfold NS.claimTo
    simp only [hi, if_true]
    rfl
  rw [hL]
  refine eq_word (by split; exact hwl; exact without_lt _ _ hxl) (NS.of_wd_lt (s.claim n p.ep p.c) j i) fun r hr => ?_
  have hR := NS.of_bit (s.claim n p.ep p.c) j i r hr
  rw [hR, owns_iff, claim_own s n p.ep p.c (64 * i + r) (by omega)]
  have hhas : hasBit p.c (64 * i + r) = (p.c i).testBit r := by
    unfold hasBit
    rw [show (64 * i + r) / 64 = i by omega, show (64 * i + r) % 64 = r by omega]
  have hkb := kept_bit s n p.ep i r hr 64 (Nat.le_refl _)
  have hwon : (((NS.of s).setEp n p.ep).won n p i).testBit r = ((p.c i).testBit r && !(((NS.of s).setEp n p.ep).keptTo n p.ep i 64).testBit r) := without_bit _ _ r (NS.keptTo_lt hML _ _ _ _) hr
  have hx : (wordsOf (s.owns j) i).testBit r = decide (s.own (64 * i + r) = j) := by rw [wordsOf_bit _ i r hr, owns_iff]
  have hov := hok.own (64 * i + r)
  rw [hhas]
  generalize (((NS.of s).setEp n p.ep).keptTo n p.ep i 64).testBit r = kb at *
  generalize (p.c i).testBit r = hb at *
  have hwb : (if j = n then ((NS.of s).setEp n p.ep).won n p i else without (wordsOf (s.owns j) i) (((NS.of s).setEp n p.ep).won n p i)).testBit r = if j = n then (hb && !kb) else (decide (s.own (64 * i + r) = j) && !(hb && !kb)) := by
    split
    · exact hwon
    · rw [without_bit _ _ r hwl hr, hwon, hx]
  rw [hwb]
  generalize hv : s.own (64 * i + r) = v at *
  have hkb2 : kb = true ↔ (v ≠ -1 ∧ v ≠ n ∧ p.ep ≤ s.ep v.toNat) := by
    rw [hkb]
    constructor
    · rintro ⟨o, h1, h2, h3, h4⟩
      subst h4
      exact ⟨by omega, by omega, by rw [Int.toNat_natCast]; exact h3⟩
    · rintro ⟨h1, h2, h3⟩
      exact ⟨v.toNat, by omega, by omega, h3, by omega⟩
  by_cases hv1 : v = -1
  · have hk : kb = false := by
      cases kb with
      | false => rfl
      | true => exact absurd hv1 (hkb2.1 rfl).1
    subst hv1
    rw [hk]
    cases hb with
    | true =>
      by_cases hjn : j = n
      · simp [hjn]
      · simp [hjn]; omega
    | false =>
      by_cases hjn : j = n
      · simp [hjn]
      · simp [hjn]
  · by_cases hvn : v = n
    · have hk : kb = false := by
        cases kb with
        | false => rfl
        | true => exact absurd hvn (hkb2.1 rfl).2.1
      subst hvn
      rw [hk]
      cases hb with
      | true =>
        by_cases hjn : j = n
        · simp [hjn]
        · simp [hjn]; omega
      | false =>
        by_cases hjn : j = n
        · simp [hjn]
        · simp [hjn]
          omega
    · have hvt : v.toNat ≠ n := by omega
      by_cases hle : p.ep ≤ s.ep v.toNat
      · have hk : kb = true := hkb2.2 ⟨hv1, hvn, hle⟩
        rw [hk]
        have hlt : ¬ s.ep v.toNat < p.ep := by omega
        by_cases hjn : j = n
        · simp [hjn, hv1, hvn, hvt, hlt]
        · simp [hjn, hv1, hvn, hvt, hlt]
      · have hk : kb = false := by
          cases kb with
          | false => rfl
          | true => exact absurd (hkb2.1 rfl).2.2 hle
        rw [hk]
        have hlt : s.ep v.toNat < p.ep := by omega
        cases hb with
        | true =>
          by_cases hjn : j = n
          · simp [hjn, hvt, hlt]
          · simp [hjn, hvt, hlt]
            omega
        | false =>
          by_cases hjn : j = n
          · simp [hjn, hvn]
          · simp [hjn, hvn]
theorem RN.claimed {u : World} {B g cap : Nat} {s : VS} {M : Int} (hok : s.Ok M) {n : Nat} (hn : n < 64) {p : PK} (hp : p.Ok) (h : RN u B g cap (((NS.of s).setEp n p.ep).claimTo n p 256 0)) : RN u B g cap (NS.of (s.claim n p.ep p.c)) :=
  h.ofEq (fun j _ => by unfold NS.of; simp only; rw [claim_ep]; rfl) fun j i _ hi => claimed_words s hok n hn hp j i hi
end Go.Proofs.Ytlccbgjlinlioaa
