/- packet.Right. -/
import Derived.Test.YtlccbgjlinlioaaClaim
namespace Go.Proofs.Ytlccbgjlinlioaa
open Go.RowKit

theorem pnode_any (n : Int) (w : World) : Calls Try.prog 46 #[.int .i64 n] w fun e w' => e = .returned (.bool (inNode n)) ∧ w = w' := by
  by_cases h : 0 ≤ n
  · by_cases h2 : n < 64
    · have HD : Hid (inNode n = true) := decide_eq_true ⟨h, h2⟩
      go_enter Try.func46, Try.ntmps46
      go_wp2
      go_ret
      exact ⟨by rw [HD.out]; rfl, rfl⟩
    · have HD : Hid (inNode n = false) := decide_eq_false (fun hh => h2 hh.2)
      go_enter Try.func46, Try.ntmps46
      go_wp2
      go_ret
      exact ⟨by rw [HD.out]; rfl, rfl⟩
  · have HD : Hid (inNode n = false) := decide_eq_false (fun hh => h hh.1)
    go_enter Try.func46, Try.ntmps46
    go_wp2
    go_ret
    exact ⟨by rw [HD.out]; rfl, rfl⟩

/-- may the kind and the owner told stand together? -/
def PK.form (p : PK) : Bool := (decide (p.kind = 1 ∨ p.kind = 2 ∨ p.kind = 4) && decide (p.of = 0)) || (decide (p.kind = 3) && inNode p.of)
/-- a packet that may be -/
def PK.right (p : PK) : Bool := p.form && (inNode p.frm && decide (p.ep ≤ p.cur))

set_option maxRecDepth 100000 in
set_option maxHeartbeats 1600000 in
theorem right_any (p : PK) (w : World) : Calls Try.prog 31 #[p.val] w fun e w' => e = .returned (.bool p.right) ∧ Below w.heap.size w w' := by
  unfold PK.val
  have hb0 : PktAt (w.alloc (.cells p.cells.toArray 29)) w.heap.size p := heap_alloc_new w _
  have hbel : Below w.heap.size w (w.alloc (.cells p.cells.toArray 29)) := (Below.refl _ _).alloc (Nat.le_refl _) _
  generalize p.cells.toArray = PC at *
  have d0 := hb0.kind
  have d1 := hb0.frm
  have d2 := hb0.of
  have d3 := hb0.ep
  have d4 := hb0.cur
  have HBel := Lib.hid hbel
  have HN1 := Lib.hid fun (u : World) => pnode_any p.of u
  have HN2 := Lib.hid fun (u : World) => pnode_any p.frm u
  have HR : Hid (p.right = (((decide (p.kind = 1 ∨ p.kind = 2 ∨ p.kind = 4) && decide (p.of = 0)) || (decide (p.kind = 3) && inNode p.of)) && (inNode p.frm && decide (p.ep ≤ p.cur)))) := rfl
  generalize p.right = RR at *
  generalize p.kind = kind at *
  generalize p.frm = frm at *
  generalize p.of = o at *
  generalize p.ep = ep at *
  generalize p.cur = cur at *
  generalize inNode o = io at *
  generalize inNode frm = ifr at *
  clear hb0 hbel
  by_cases hk : kind = 1 ∨ kind = 2 ∨ kind = 4
  · by_cases ho : o = 0
    · subst ho
      cases ifr with
      | true =>
        have HE := Lib.hid (show RR = decide (ep ≤ cur) by rw [HR.out]; simp [hk])
        rcases hk with rfl | rfl | rfl <;> (go_enter Try.func31, Try.ntmps31; go_wp2_with fail; refine (HN2.out _).mono ?_; rintro e w' ⟨rfl, rfl⟩; go_wp2; go_ret; exact ⟨by rw [HE.out]; rfl, HBel.out⟩)
      | false =>
        have HE := Lib.hid (show RR = false by rw [HR.out]; simp)
        rcases hk with rfl | rfl | rfl <;> (go_enter Try.func31, Try.ntmps31; go_wp2_with fail; refine (HN2.out _).mono ?_; rintro e w' ⟨rfl, rfl⟩; go_wp2; go_ret; exact ⟨by rw [HE.out]; rfl, HBel.out⟩)
    · have hk3 : ¬ kind = 3 := by omega
      have HE := Lib.hid (show RR = false by rw [HR.out]; simp [ho, hk3])
      have hob : (o != 0) = true := by simp [ho]
      rcases hk with rfl | rfl | rfl <;> (go_enter Try.func31, Try.ntmps31; go_wp2; go_ret; exact ⟨by rw [HE.out]; rfl, HBel.out⟩)
  · by_cases hk3 : kind = 3
    · subst hk3
      cases io with
      | true =>
        cases ifr with
        | true =>
          have HE := Lib.hid (show RR = decide (ep ≤ cur) by rw [HR.out]; simp)
          go_enter Try.func31, Try.ntmps31
          go_wp2_with fail
          refine (HN1.out _).mono ?_
          rintro e w' ⟨rfl, rfl⟩
          go_wp2_with fail
          refine (HN2.out _).mono ?_
          rintro e w' ⟨rfl, rfl⟩
          go_wp2
          go_ret
          exact ⟨by rw [HE.out]; rfl, HBel.out⟩
        | false =>
          have HE := Lib.hid (show RR = false by rw [HR.out]; simp)
          go_enter Try.func31, Try.ntmps31
          go_wp2_with fail
          refine (HN1.out _).mono ?_
          rintro e w' ⟨rfl, rfl⟩
          go_wp2_with fail
          refine (HN2.out _).mono ?_
          rintro e w' ⟨rfl, rfl⟩
          go_wp2
          go_ret
          exact ⟨by rw [HE.out]; rfl, HBel.out⟩
      | false =>
        have HE := Lib.hid (show RR = false by rw [HR.out]; simp)
        go_enter Try.func31, Try.ntmps31
        go_wp2_with fail
        refine (HN1.out _).mono ?_
        rintro e w' ⟨rfl, rfl⟩
        go_wp2
        go_ret
        exact ⟨by rw [HE.out]; rfl, HBel.out⟩
    · have HE := Lib.hid (show RR = false by rw [HR.out]; simp [hk, hk3])
      have k1 : (kind == 1) = false := by rw [beq_eq_false_iff_ne]; omega
      have k2 : (kind == 2) = false := by rw [beq_eq_false_iff_ne]; omega
      have k3 : (kind == 3) = false := by rw [beq_eq_false_iff_ne]; omega
      have k4 : (kind == 4) = false := by rw [beq_eq_false_iff_ne]; omega
      go_enter Try.func31, Try.ntmps31
      go_wp2
      go_ret
      exact ⟨by rw [HE.out]; rfl, HBel.out⟩
end Go.Proofs.Ytlccbgjlinlioaa
