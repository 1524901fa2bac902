/- The walks of Same (of equal rows) and of alive. -/
import Derived.Test.YtemacgcklgdhpaaDoes
namespace Go.Proofs.Ytemacgcklgdhpaa
open Go.RowKit

set_option maxHeartbeats 800000 in
theorem same_walk {w : World} {v1 v2 : Value} {l : List ByteArray} (h1 : StrsAt w v1 l) (h2 : StrsAt w v2 l) (hl : l.length ≤ 256) :
    Calls Try.prog 15 #[v1, v2] w fun e w' => e = .returned (.bool true) ∧ Below w.heap.size w w' := by
  obtain ⟨sp1, cap1, rfl, hcap1, hn1, hc1⟩ := h1.form
  obtain ⟨sp2, cap2, rfl, hcap2, hn2, hc2⟩ := h2.form
  have H1 := Lib.hid hc1
  have H2 := Lib.hid hc2
  clear hc1 hc2 hn1 hn2 h1 h2 hcap1 hcap2
  go_enter Try.func15, Try.ntmps15
  go_wp2_with fail
  go_loopw [5] (fun i wr => ∃ k : Nat, k ≤ l.length ∧ i = .int .i64 k ∧ Below w.heap.size w wr) (fun i _ => l.length - (intOf i).toNat)
  case atStart => exact ⟨0, Nat.zero_le _, rfl, Below.refl _ _⟩
  case round =>
    obtain ⟨k, hk, rfl, hb⟩ := hrel
    have HB := Lib.hid hb
    clear hb
    by_cases hlt : k < l.length
    · obtain ⟨b1, o1, rfl, _, c1⟩ := H1.out (by omega)
      obtain ⟨b2, o2, rfl, _, c2⟩ := H2.out (by omega)
      have d1 := c1 k hlt
      have d2 := c2 k hlt
      have e1 := (HB.out.cell (p := ⟨b1, o1 + k, none⟩) (block_lt_of_cell d1)).trans d1
      have e2 := (HB.out.cell (p := ⟨b2, o2 + k, none⟩) (block_lt_of_cell d2)).trans d2
      obtain ⟨s, hs⟩ : ∃ s, s = l.getD k emptyS := ⟨_, rfl⟩
      rw [← hs] at e1 e2
      have hki : (0 : Int) ≤ (k : Int) ∧ (k : Int) < l.length := by omega
      clear c1 c2 d1 d2 hs
      go_wp2_with fail
      go_quiet (fail)
      go_wp2
      go_roundw
      case rel => exact ⟨k + 1, by omega, by go_num, below_drewN HB.out _⟩
      case measure => simp [intOf]; omega
    · have hkl : k = l.length := by omega
      subst hkl
      go_wp2
      go_ret
      exact ⟨rfl, HB.out⟩

/-- only block g, and it is a new one -/
theorem Only.new {w w0 w' : World} {g B : Nat} (hb : Below B w0 w) (ho : Only w w' g) (hBg : B ≤ g) (hB : B ≤ w.heap.size) : Below B w0 w' :=
  ⟨ho.os.trans hb.os, ho.tape.trans hb.tape, ho.output.trans hb.output, Nat.le_trans hb.size ho.size, fun k hk => (ho.block k (by omega) (by simp; omega)).trans (hb.block k hk)⟩

theorem ranged_all (l : List ByteArray) : ranged l 0 (-1) = l := by
  have h0 : pl 0 l.length = 0 := rfl
  have h1 : pl (-1) l.length = (l.length : Int) - 1 := by unfold pl; rw [if_pos (by decide)]; omega
  have h2 : lo 0 l.length = 0 := by unfold lo; rw [h0]; rfl
  have h3 : hi (-1) l.length = (l.length : Int) - 1 := by unfold hi; rw [h1]; split <;> rfl
  have e : clampA 0 (-1) l.length = 0 ∧ clampB 0 (-1) l.length = l.length := by
    unfold clampA clampB
    rw [h2, h3]
    by_cases h : (l.length : Int) < 1
    · rw [if_pos h, if_pos h]; omega
    · rw [if_neg h, if_neg h, if_neg (by omega), if_neg (by omega)]; omega
  unfold ranged
  rw [e.1, e.2]
  simpa using sub_all l

theorem strsAt_lit (w : World) (l : List ByteArray) : StrsAt (w.alloc (.cells (strVals l).toArray 9)) (.slice (some ⟨w.heap.size, 0, none⟩) l.length l.length) l := by
  refine .inr ⟨w.heap.size, 0, l.length, rfl, Nat.le_refl _, ⟨_, _, heap_alloc_new w _⟩, fun i hi => ?_⟩
  rw [Nat.zero_add, World.cell?_alloc_mark]
  simp [strVals, List.getElem?_eq_getElem hi]

set_option maxHeartbeats 800000 in
theorem alive_walk (w : World) : Calls Try.prog 10 #[] w fun e w' => e = .returned (.bool true) ∧ Below w.heap.size w w' := by
  go_enter Try.func10, Try.ntmps10
  go_wp2_with fail
  refine (dq_new w).mono ?_
  rintro e w1 ⟨rfl, hd, hb, hsz⟩
  have HD1 := Lib.hid hd
  have HB1 := Lib.hid hb
  have g1 := hb.size
  clear hd hb
  go_wp2_with fail
  refine (dq_push HD1.out false _).mono ?_
  rintro e w2 ⟨rfl, hd, ho⟩
  have HD2 := Lib.hid hd
  have g2 := ho.size
  have HB2 := Lib.hid (ho.new HB1.out (Nat.le_refl _) g1)
  clear hd ho
  go_wp2_with fail
  refine (dq_push HD2.out false _).mono ?_
  rintro e w3 ⟨rfl, hd, ho⟩
  have HD3 := Lib.hid hd
  have g3 := ho.size
  have HB3 := Lib.hid (ho.new HB2.out (Nat.le_refl _) (by omega))
  clear hd ho
  go_wp2_with fail
  refine (dq_push HD3.out true _).mono ?_
  rintro e w4 ⟨rfl, hd, ho⟩
  have hd' : Dq w4 w.heap.size [⟨#[99]⟩, ⟨#[97]⟩, ⟨#[98]⟩] := hd
  have HD4 := Lib.hid hd'
  have g4 := ho.size
  have HB4 := Lib.hid (ho.new HB3.out (Nat.le_refl _) (by omega))
  clear hd hd' ho
  go_wp2_with fail
  refine (dq_len HD4.out).mono ?_
  rintro e w' ⟨rfl, rfl⟩
  simp only [List.length_cons, List.length_nil]
  go_wp2_with fail
  refine (dq_range HD4.out 0 (-1) (by decide) (by decide)).mono ?_
  rintro e w5 ⟨v, rfl, hs, hb⟩
  rw [ranged_all] at hs
  have HS5 := Lib.hid hs
  have HB5 := Lib.hid (HB4.out.trans (hb.mono (by omega)))
  have g5 := hb.size
  clear hs hb
  go_wp2_with fail
  have hb6 : Below w5.heap.size w5 (w5.alloc (.cells (strVals [⟨#[99]⟩, ⟨#[97]⟩, ⟨#[98]⟩]).toArray 9)) := (Below.refl _ _).alloc (Nat.le_refl _) _
  have HB6 := Lib.hid hb6
  clear hb6
  refine (same_walk (HS5.out.below HB6.out) (strsAt_lit w5 [⟨#[99]⟩, ⟨#[97]⟩, ⟨#[98]⟩]) (by decide)).mono ?_
  rintro e w7 ⟨rfl, hb7⟩
  have HB7 := Lib.hid (HB5.out.trans ((HB6.out.mono (by omega)).trans (hb7.mono (by simp; omega))))
  clear hb7
  go_wp2
  go_ret
  exact ⟨rfl, HB7.out⟩
end Go.Proofs.Ytemacgcklgdhpaa
