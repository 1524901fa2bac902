/- What a claim does, slot by slot; who is beaten. -/
import Derived.Test.YtlccbgjlinlioaaDoes
namespace Go.Proofs.Ytlccbgjlinlioaa
open Go.RowKit

theorem mem_slotsTo {c : Nat → Nat} {n k : Nat} : k ∈ slotsTo c n ↔ k < n ∧ hasBit c k = true := by
  unfold slotsTo
  rw [List.mem_filter, List.mem_range]

/-- what becomes of a slot that is claimed -/
def VS.wins (t : VS) (n : Nat) (e : Int) (k : Nat) : Int := if t.own k = -1 ∨ t.ep (t.own k).toNat < e then n else t.own k

theorem claimFold_same (n : Nat) (e : Int) : ∀ (l : List Nat) (t : VS), (l.foldl (fun t k => t.claimSlot n e k) t).self = t.self ∧ (l.foldl (fun t k => t.claimSlot n e k) t).ep = t.ep ∧ (l.foldl (fun t k => t.claimSlot n e k) t).cur = t.cur
  | [], _ => ⟨rfl, rfl, rfl⟩
  | k :: l, t => by
    obtain ⟨h1, h2, h3⟩ := claimFold_same n e l (t.claimSlot n e k)
    have e1 : (t.claimSlot n e k).self = t.self ∧ (t.claimSlot n e k).ep = t.ep ∧ (t.claimSlot n e k).cur = t.cur := by
      unfold VS.claimSlot
      split <;> exact ⟨rfl, rfl, rfl⟩
    rw [List.foldl_cons]
    exact ⟨h1.trans e1.1, h2.trans e1.2.1, h3.trans e1.2.2⟩

theorem claimSlot_own (t : VS) (n : Nat) (e : Int) (k j : Nat) : (t.claimSlot n e k).own j = if j = k then t.wins n e k else t.own j := by
  unfold VS.claimSlot VS.wins
  by_cases h : t.own k = -1 ∨ t.ep (t.own k).toNat < e
  · rw [if_pos h, if_pos h]
    rfl
  · rw [if_neg h, if_neg h]
    by_cases hj : j = k
    · subst hj; rw [if_pos rfl]
    · rw [if_neg hj]

theorem wins_again (t : VS) (n : Nat) (e : Int) (he : t.ep n = e) (k : Nat) (t' : VS) (ht : t'.ep = t.ep) (hk : t'.own k = t.wins n e k) : t'.wins n e k = t.wins n e k := by
  have hc : ¬ ((t.wins n e k) = -1 ∨ t.ep (t.wins n e k).toNat < e) := by
    unfold VS.wins
    by_cases h : t.own k = -1 ∨ t.ep (t.own k).toNat < e
    · rw [if_pos h]
      rintro (h1 | h1)
      · omega
      · rw [Int.toNat_natCast, he] at h1; omega
    · rw [if_neg h]; exact h
  rw [show t'.wins n e k = if t'.own k = -1 ∨ t'.ep (t'.own k).toNat < e then (n : Int) else t'.own k from rfl, hk, ht, if_neg hc]

theorem claimFold_own (n : Nat) (e : Int) : ∀ (l : List Nat) (t : VS), t.ep n = e → ∀ j, (l.foldl (fun t k => t.claimSlot n e k) t).own j = if j ∈ l then t.wins n e j else t.own j
  | [], t, _, j => by simp
  | k :: l, t, he, j => by
    have he2 : (t.claimSlot n e k).ep = t.ep := by unfold VS.claimSlot; split <;> rfl
    rw [List.foldl_cons, claimFold_own n e l (t.claimSlot n e k) (by rw [he2]; exact he) j]
    by_cases hjk : j = k
    · subst hjk
      have h1 : (t.claimSlot n e j).own j = t.wins n e j := by rw [claimSlot_own, if_pos rfl]
      rw [if_pos (List.mem_cons_self)]
      by_cases hjl : j ∈ l
      · rw [if_pos hjl]
        exact wins_again t n e he j _ he2 h1
      · rw [if_neg hjl, h1]
    · have h1 : (t.claimSlot n e k).own j = t.own j := by rw [claimSlot_own, if_neg hjk]
      have h2 : (t.claimSlot n e k).wins n e j = t.wins n e j := by unfold VS.wins; rw [h1, he2]
      rw [h1, h2]
      by_cases hjl : j ∈ l
      · rw [if_pos hjl, if_pos (List.mem_cons_of_mem _ hjl)]
      · rw [if_neg hjl, if_neg (by simp [hjk, hjl])]

/-- a claim, slot by slot -/
theorem claim_own (s : VS) (n : Nat) (e : Int) (c : Nat → Nat) (k : Nat) (hk : k < 16384) :
    (s.claim n e c).own k = if hasBit c k = true then (if s.own k = -1 ∨ (if (s.own k).toNat = n then e else s.ep (s.own k).toNat) < e then (n : Int) else s.own k) else if s.own k = n then -1 else s.own k := by
  unfold VS.claim
  rw [claimFold_own n e _ _ (by unfold VS.dropTo; simp) k]
  by_cases hb : hasBit c k = true
  · rw [if_pos (mem_slotsTo.2 ⟨hk, hb⟩), if_pos hb]
    have ho : (s.dropTo n e c 16384).own k = s.own k := by unfold VS.dropTo; simp [hb]
    unfold VS.wins
    rw [ho]
    rfl
  · rw [if_neg (fun h => hb (mem_slotsTo.1 h).2), if_neg hb]
    unfold VS.dropTo
    have hb2 : hasBit c k = false := by cases h : hasBit c k; rfl; exact absurd h hb
    simp [hk, hb2]
theorem claim_self (s : VS) (n : Nat) (e : Int) (c : Nat → Nat) : (s.claim n e c).self = s.self := (claimFold_same n e _ _).1
theorem claim_ep (s : VS) (n : Nat) (e : Int) (c : Nat → Nat) : (s.claim n e c).ep = fun j => if j = n then e else s.ep j := (claimFold_same n e _ _).2.1
theorem claim_cur (s : VS) (n : Nat) (e : Int) (c : Nat → Nat) : (s.claim n e c).cur = s.cur := (claimFold_same n e _ _).2.2

/-- is the owner of slot k not beaten? -/
def VS.stands (s : VS) (frm e : Int) (k : Nat) : Prop := s.own k ≠ -1 ∧ s.own k ≠ frm ∧ e < s.ep (s.own k).toNat
theorem beatFold_kept (s : VS) (frm e : Int) : ∀ (l : List Nat) (f : Int), f ≠ -1 → l.foldl (fun f k => s.beatSlot frm e f k) f = f
  | [], _, _ => rfl
  | k :: l, f, hf => by
    rw [List.foldl_cons, show s.beatSlot frm e f k = f by unfold VS.beatSlot; rw [if_neg (fun h => hf h.1)]]
    exact beatFold_kept s frm e l f hf
theorem beatFold_none (s : VS) (frm e : Int) : ∀ (l : List Nat), (∀ k ∈ l, ¬ s.stands frm e k) → l.foldl (fun f k => s.beatSlot frm e f k) (-1) = -1
  | [], _ => rfl
  | k :: l, h => by
    rw [List.foldl_cons, show s.beatSlot frm e (-1) k = -1 by unfold VS.beatSlot; rw [if_neg (fun hh => h k (by simp) ⟨hh.2.1, hh.2.2.1, hh.2.2.2⟩)]]
    exact beatFold_none s frm e l fun j hj => h j (by simp [hj])
theorem beatFold_first (s : VS) (frm e : Int) : ∀ (l : List Nat) (k : Nat) (r : List Nat), (∀ j ∈ l, ¬ s.stands frm e j) → s.stands frm e k → (l ++ k :: r).foldl (fun f k => s.beatSlot frm e f k) (-1) = s.own k
  | [], k, r, _, hk => by
    rw [List.nil_append, List.foldl_cons, show s.beatSlot frm e (-1) k = s.own k by unfold VS.beatSlot; rw [if_pos ⟨rfl, hk.1, hk.2.1, hk.2.2⟩]]
    exact beatFold_kept s frm e r _ hk.1
  | j :: l, k, r, h, hk => by
    rw [List.cons_append, List.foldl_cons, show s.beatSlot frm e (-1) j = -1 by unfold VS.beatSlot; rw [if_neg (fun hh => h j (by simp) ⟨hh.2.1, hh.2.2.1, hh.2.2.2⟩)]]
    exact beatFold_first s frm e l k r (fun i hi => h i (by simp [hi])) hk
end Go.Proofs.Ytlccbgjlinlioaa
