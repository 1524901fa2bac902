/- The closures that each is given. -/
import Derived.Test.YtlccbgjlinlioaaEach
namespace Go.Proofs.Ytlccbgjlinlioaa
open Go.RowKit

set_option maxRecDepth 100000 in
/-- New$1: slot k is the node's own -/
theorem newc_any {w : World} {g x y : Nat} {s : VS} (h : ViewAt w g s) (me k : Nat) (hme : me < 64) (hk : k < 16384)
    (hx : w.cell? ⟨x, 0, none⟩ = some (.int .i64 me)) (hy : w.cell? ⟨y, 0, none⟩ = some (.pointer (some ⟨g, 0, none⟩))) :
    Calls Try.prog 45 #[.int .i64 k, .pointer (some ⟨x, 0, none⟩), .pointer (some ⟨y, 0, none⟩)] w fun e w' => e = .returned (.tuple #[]) ∧ ViewAt w' g (s.setOwn k me) ∧ Only w w' g := by
  have c1 := h.own k hk
  have z1 := h.free (1 + k)
  have HV := Lib.hid (h.setOwn k hk me)
  have hki : (0 : Int) ≤ (k : Int) ∧ (k : Int) < 16384 := by omega
  generalize s.own k = o at *
  clear h
  go_enter Try.func45, Try.ntmps45
  go_wp2_with fail
  go_region
  all_goals go_wp2
  all_goals go_end0
  all_goals exact ⟨rfl, by first | exact HV.out | exact HV.out.drew, by first | exact Only.setCell _ _ _ _ | exact (Only.setCell _ _ _ _).drew⟩

/-- what claim does to a slot that is claimed -/
def VS.claimSlot (s : VS) (n : Int) (e : Int) (k : Nat) : VS := if s.own k = -1 ∨ s.ep (s.own k).toNat < e then s.setOwn k n else s

set_option maxRecDepth 100000 in
set_option maxHeartbeats 800000 in
/-- claim$1 -/
theorem claimc_any {w : World} {g x y p : Nat} {s : VS} (h : ViewAt w g s) {M : Int} (hok : s.Ok M) (n k : Nat) (e : Int) (hn : n < 64) (hk : k < 16384)
    (hx : w.cell? ⟨x, 0, none⟩ = some (.pointer (some ⟨g, 0, none⟩))) (hp : w.cell? ⟨p, 3, none⟩ = some (.int .u64 e)) (hy : w.cell? ⟨y, 0, none⟩ = some (.int .i64 n)) :
    Calls Try.prog 47 #[.int .i64 k, .pointer (some ⟨x, 0, none⟩), .pointer (some ⟨p, 0, none⟩), .pointer (some ⟨y, 0, none⟩)] w fun e' w' => e' = .returned (.tuple #[]) ∧ ViewAt w' g (s.claimSlot n e k) ∧ Only w w' g := by
  have c1 := h.own k hk
  have z1 := h.free (1 + k)
  have HV := Lib.hid (h.setOwn k hk n)
  have H := Lib.hid h
  have hki : (0 : Int) ≤ (k : Int) ∧ (k : Int) < 16384 := by omega
  have ho := hok.own k
  by_cases h1 : s.own k = -1
  · have HE : Hid (s.claimSlot n e k = s.setOwn k n) := by unfold VS.claimSlot; rw [if_pos (.inl h1)]; exact rfl
    rw [h1] at c1
    clear h hok ho h1
    go_enter Try.func47, Try.ntmps47
    go_wp2_with fail
    go_quiet (fail)
    go_wp2_with fail
    go_region
    all_goals go_wp2
    all_goals go_end0
    all_goals exact ⟨rfl, by rw [HE.out]; first | exact HV.out | exact HV.out.drew, by first | exact (below_only (below_drewN (Below.refl _ _) _) g).trans (Only.setCell _ _ _ _) | exact ((below_only (below_drewN (Below.refl _ _) _) g).trans (Only.setCell _ _ _ _)).drew | exact Only.setCell _ _ _ _ | exact (Only.setCell _ _ _ _).drew⟩
  · obtain ⟨o, hoN⟩ : ∃ o : Nat, s.own k = o := ⟨(s.own k).toNat, by omega⟩
    have ho64 : o < 64 := by omega
    have hoi : (0 : Int) ≤ (o : Int) ∧ (o : Int) < 64 := by omega
    have c2 := h.ep o ho64
    rw [hoN] at c1
    have hb : ((o : Int) == -1) = false := by rw [beq_eq_false_iff_ne]; omega
    by_cases h2 : s.ep o < e
    · have HE : Hid (s.claimSlot n e k = s.setOwn k n) := by unfold VS.claimSlot; rw [hoN, if_pos (.inr (by simpa using h2))]; exact rfl
      generalize s.ep o = eo at *
      clear h hok ho h1 hoN
      go_enter Try.func47, Try.ntmps47
      go_wp2_with fail
      go_quiet (fail)
      go_wp2_with fail
      go_region
      all_goals go_wp2
      all_goals go_end0
      all_goals exact ⟨rfl, by rw [HE.out]; first | exact HV.out | exact HV.out.drew, by first | exact (below_only (below_drewN (Below.refl _ _) _) g).trans (Only.setCell _ _ _ _) | exact ((below_only (below_drewN (Below.refl _ _) _) g).trans (Only.setCell _ _ _ _)).drew | exact Only.setCell _ _ _ _ | exact (Only.setCell _ _ _ _).drew⟩
    · have HE : Hid (s.claimSlot n e k = s) := by unfold VS.claimSlot; rw [hoN, if_neg (by simp; omega)]; exact rfl
      generalize s.ep o = eo at *
      clear h hok ho h1 hoN
      go_enter Try.func47, Try.ntmps47
      go_wp2_with fail
      go_quiet (fail)
      go_wp2
      go_end0
      exact ⟨rfl, by rw [HE.out]; exact H.out, below_only (below_drewN (Below.refl _ _) _) g⟩

/-- the first owner that is not beaten, so far -/
def VS.beatSlot (s : VS) (frm e f : Int) (k : Nat) : Int := if f = -1 ∧ s.own k ≠ -1 ∧ s.own k ≠ frm ∧ e < s.ep (s.own k).toNat then s.own k else f

set_option maxRecDepth 100000 in
set_option maxHeartbeats 1600000 in
/-- beaten$1 -/
theorem beatc_any {w : World} {g x y p : Nat} {s : VS} (h : ViewAt w g s) {M : Int} (hok : s.Ok M) (k : Nat) (frm e f : Int) (hk : k < 16384)
    (hx : w.cell? ⟨x, 0, none⟩ = some (.pointer (some ⟨g, 0, none⟩))) (hp : w.cell? ⟨p, 3, none⟩ = some (.int .u64 e)) (hp1 : w.cell? ⟨p, 1, none⟩ = some (.int .i64 frm)) (hy : w.heap[y]? = some (.cells #[.int .i64 f] 3 (0, 0))) :
    Calls Try.prog 48 #[.int .i64 k, .pointer (some ⟨x, 0, none⟩), .pointer (some ⟨y, 0, none⟩), .pointer (some ⟨p, 0, none⟩)] w fun e' w' => e' = .returned (.tuple #[]) ∧ w'.heap[y]? = some (.cells #[.int .i64 (s.beatSlot frm e f k)] 3 (0, 0)) ∧ Only w w' y := by
  have c1 := h.own k hk
  have c0 : w.cell? ⟨y, 0, none⟩ = some (.int .i64 f) := by rw [cell_of_row _ _ _ _ _ _ hy]; rfl
  have z0 : w.frozen? ⟨y, 0, none⟩ = false := frozen_of_row w y 0 _ 3 hy
  have HY := Lib.hid hy
  have hki : (0 : Int) ≤ (k : Int) ∧ (k : Int) < 16384 := by omega
  have ho := hok.own k
  clear hy
  by_cases hf : f = -1
  · by_cases h1 : s.own k = -1
    · have HE : Hid (s.beatSlot frm e f k = f) := by unfold VS.beatSlot; rw [if_neg (fun hh => hh.2.1 h1)]; exact rfl
      rw [h1] at c1
      subst hf
      clear h hok ho h1
      go_enter Try.func48, Try.ntmps48
      go_wp2_with fail
      go_quiet (fail)
      go_wp2
      go_end0
      exact ⟨rfl, by rw [HE.out]; exact HY.out, below_only (below_drewN (Below.refl _ _) _) y⟩
    · obtain ⟨o, hoN⟩ : ∃ o : Nat, s.own k = o := ⟨(s.own k).toNat, by omega⟩
      have ho64 : o < 64 := by omega
      have hoi : (0 : Int) ≤ (o : Int) ∧ (o : Int) < 64 := by omega
      have c2 := h.ep o ho64
      rw [hoN] at c1
      have hb : ((o : Int) == -1) = false := by rw [beq_eq_false_iff_ne]; omega
      have hb2 : ((o : Int) != -1) = true := by simp
      by_cases h3 : (o : Int) = frm
      · have HE : Hid (s.beatSlot frm e f k = f) := by unfold VS.beatSlot; rw [if_neg (fun hh => hh.2.2.1 (by rw [hoN]; exact h3))]; exact rfl
        subst hf h3
        clear h hok ho h1 hoN
        go_enter Try.func48, Try.ntmps48
        go_wp2_with fail
        go_quiet (fail)
        go_wp2
        go_end0
        exact ⟨rfl, by rw [HE.out]; exact HY.out, below_only (below_drewN (Below.refl _ _) _) y⟩
      · have h3b : ((o : Int) != frm) = true := by simp [h3]
        by_cases h4 : e < s.ep o
        · have HE : Hid (s.beatSlot frm e f k = o) := by unfold VS.beatSlot; rw [hoN, if_pos ⟨hf, by omega, h3, by simpa using h4⟩]; exact rfl
          generalize s.ep o = eo at *
          subst hf
          clear h hok ho h1 hoN
          go_enter Try.func48, Try.ntmps48
          go_wp2_with fail
          go_quiet (fail)
          go_wp2
          go_end0
          exact ⟨rfl, by rw [HE.out]; exact heap_setCell_same _ y 0 _ 3 _ HY.out, (below_only (below_drewN (Below.refl _ _) _) y).trans (Only.setCell _ _ _ _)⟩
        · have HE : Hid (s.beatSlot frm e f k = f) := by unfold VS.beatSlot; rw [hoN, if_neg (fun hh => h4 (by simpa using hh.2.2.2))]; exact rfl
          generalize s.ep o = eo at *
          subst hf
          clear h hok ho h1 hoN
          go_enter Try.func48, Try.ntmps48
          go_wp2_with fail
          go_quiet (fail)
          go_wp2
          go_end0
          exact ⟨rfl, by rw [HE.out]; exact HY.out, below_only (below_drewN (Below.refl _ _) _) y⟩
  · have HE : Hid (s.beatSlot frm e f k = f) := by unfold VS.beatSlot; rw [if_neg (fun hh => hf hh.1)]; exact rfl
    have hfb : (f == -1) = false := by rw [beq_eq_false_iff_ne]; exact hf
    generalize s.own k = o at *
    clear h hok
    go_enter Try.func48, Try.ntmps48
    go_wp2_with fail
    go_quiet (fail)
    go_wp2
    go_end0
    exact ⟨rfl, by rw [HE.out]; exact HY.out, below_only (below_drewN (Below.refl _ _) _) y⟩
end Go.Proofs.Ytlccbgjlinlioaa
