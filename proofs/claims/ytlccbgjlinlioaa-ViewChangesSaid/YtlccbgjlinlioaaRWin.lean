/- The document's Win. -/
import Derived.Test.YtlccbgjlinlioaaRGive
namespace Go.Proofs.Ytlccbgjlinlioaa
open Go.RowKit

set_option maxRecDepth 100000 in
set_option maxHeartbeats 1600000 in
theorem rwin_any {w : World} {B g cap : Nat} {s : VS} (h : RN w B g cap (NS.of s)) {M : Int} (hok : s.Ok M) (hM : 4611686018427387904 ≤ M) (hM2 : M ≤ 9223372036854775806) (k least : Int) (hl : 0 ≤ least) :
    Calls Try.prog 38 #[refVal s.self g cap s.cur, .int .i64 k, .int .u64 least] w fun e w' => ∃ g' cap', e = .returned (.tuple #[refVal s.self g' cap' (s.winD k least).cur, .int .i64 (winE k least)]) ∧ RN w' B g' cap' (NS.of (s.winD k least)) ∧ Below w.heap.size w w' := by
  have hgl := h.lt
  have hs := hok.self
  have hcM := hok.cur
  have hc0 := hok.ep 0
  have hcu : 0 ≤ s.cur ∧ s.cur ≤ 9223372036854775806 := by omega
  obtain ⟨self, hself⟩ : ∃ x, x = s.self := ⟨_, rfl⟩
  obtain ⟨cur, hcur⟩ : ∃ c, c = s.cur := ⟨_, rfl⟩
  rw [← hself] at hs ⊢
  rw [← hcur] at hcu ⊢
  have HCp := Lib.hid fun (u : World) (hu : RN u B g cap (NS.of s)) => copied_any (self := self) (cur := cur) hu
  have HOw := Lib.hid fun (u : World) (B' g' cap' k' : Nat) (hu : RN u B' g' cap' (NS.of s)) (hk : k' < 16384) => rowned_any (self := self) (cur := cur) hu (NS.of_lt s) k' self hk hs
  have HRs := Lib.hid fun (u : World) (B' g' cap' : Nat) (c : Int) (N : NS) (hu : RN u B' g' cap' N) (hc : 0 ≤ c ∧ c ≤ 9223372036854775807) => rraise_any (self := self) hu hs hc
  unfold refVal at *
  have HSe := Lib.hid hself
  have HCe := Lib.hid hcur
  clear hself hcur hcM hc0
  have hb2 : Below w.heap.size w ((w.alloc (.cells #[.int .i64 (self : Int), .slice (some ⟨g, 0, none⟩) 64 cap, .int .u64 cur] 33)).alloc (.cells #[.int .i64 0, .slice none 0 0, .int .u64 0] 33)) := below2 _ _ _
  have hbx : Box ((w.alloc (.cells #[.int .i64 (self : Int), .slice (some ⟨g, 0, none⟩) 64 cap, .int .u64 cur] 33)).alloc (.cells #[.int .i64 0, .slice none 0 0, .int .u64 0] 33)) w.heap.size (.int .i64 (self : Int)) (.slice (some ⟨g, 0, none⟩) 64 cap) (.int .u64 cur) := ⟨by
    rw [Below.heap_alloc _ _ _ (by simp)]
    exact heap_alloc_new w _⟩
  have hby : Box ((w.alloc (.cells #[.int .i64 (self : Int), .slice (some ⟨g, 0, none⟩) 64 cap, .int .u64 cur] 33)).alloc (.cells #[.int .i64 0, .slice none 0 0, .int .u64 0] 33)) (w.heap.size + 1) (.int .i64 0) (.slice none 0 0) (.int .u64 0) := box2 _ _ _ _ _
  have hws : w.heap.size + 1 < ((w.alloc (.cells #[.int .i64 (self : Int), .slice (some ⟨g, 0, none⟩) 64 cap, .int .u64 cur] 33)).alloc (.cells #[.int .i64 0, .slice none 0 0, .int .u64 0] 33)).heap.size := by simp
  have hrn := h.belowN hb2 hgl.2
  generalize hw2 : (w.alloc (.cells #[.int .i64 (self : Int), .slice (some ⟨g, 0, none⟩) 64 cap, .int .u64 cur] 33)).alloc (.cells #[.int .i64 0, .slice none 0 0, .int .u64 0] 33) = w2 at *
  have HW2 := Lib.hid hw2
  have HBel := Lib.hid hb2
  have HRn := Lib.hid hrn
  have HBx := Lib.hid hbx
  have HBy := Lib.hid hby
  have a0 := hbx.cell0
  have a1 := hbx.cell1
  have a2 := hbx.cell2
  have b0 := hby.cell0
  have b1 := hby.cell1
  have b2 := hby.cell2
  have zb0 := hby.free 0
  have zb1 := hby.free 1
  have zb2 := hby.free 2
  clear hw2 hb2 hrn hbx hby h
  by_cases hk : inSlot k = true
  · obtain ⟨k0, k1⟩ := inSlot_true hk
    obtain ⟨kk, rfl⟩ := Int.eq_ofNat_of_zero_le k0
    have k0d : decide ((kk : Int) < 0) = false := decide_eq_false (by omega)
    have k1d : decide (16383 < (kk : Int)) = false := decide_eq_false (by omega)
    have hkk : kk < 16384 := by omega
    by_cases hll : least ≤ 4611686018427387904
    · have hE : Hid (winE kk least = 0) := by unfold winE; rw [if_pos ⟨hk, hll⟩]; exact rfl
      have hD : Hid (s.winD kk least = ((s.setOwn kk s.self).setCur (max s.cur least)).raise) := by unfold VS.winD; rw [if_pos ⟨hk, hll⟩]; exact rfl
      have hld : decide (4611686018427387904 < least) = false := decide_eq_false (by omega)
      have HLl := Lib.hid hll
      clear hk k0 k1 hll
      go_enter Try.func38, Try.ntmps38
      go_upto_region 1 with fail
      rw [HW2.out]
      go_upto_region 3 with fail
      go_cut [21] (fun v wx => v = .int .i64 kk ∧ ∃ g' cap', Box wx w.heap.size (.int .i64 (self : Int)) (.slice (some ⟨g', 0, none⟩) 64 cap') (.int .u64 cur) ∧ Box wx (w.heap.size + 1) (.int .i64 0) (.slice none 0 0) (.int .u64 0) ∧ RN wx (w.heap.size + 1 + 1) g' cap' (NS.of (s.setOwn kk self)) ∧ Below w.heap.size w wx)
      case first =>
        have a0' : w2.drew.cell? ⟨w.heap.size, 0, none⟩ = some (.int .i64 (self : Int)) := a0
        have a1' : w2.drew.cell? ⟨w.heap.size, 1, none⟩ = some (.slice (some ⟨g, 0, none⟩) 64 cap) := a1
        have a2' : w2.drew.cell? ⟨w.heap.size, 2, none⟩ = some (.int .u64 cur) := a2
        have HRd := Lib.hid HRn.out.drew
        go_region_with (first
          | (go_at_call 50; refine (HCp.out _ HRd.out).mono ?_; rintro e w3 ⟨g', cap', rfl, hr3, hb3⟩; have HR3 := Lib.hid hr3; have hx3 := HBx.out.drew.below hb3 HBx.out.lt; have HX3 := Lib.hid hx3; have hy3 := HBy.out.drew.below hb3 HBy.out.lt; have HY3 := Lib.hid hy3; have HB3 := Lib.hid (HBel.out.drew.trans (hb3.mono HBel.out.size)); have c0 := hx3.cell0; clear hr3 hb3 hx3 hy3)
          | (go_at_call 54; refine (HOw.out _ _ _ _ kk HR3.out hkk).mono ?_; rintro e w4 ⟨rfl, hr4, ho4⟩; have HR4 := Lib.hid hr4; have HO4 := Lib.hid ho4; have hx4 := HX3.out.only ho4 (by have := HR3.out.lt; have := HBx.out.lt; simp at *; omega); have d0 := hx4.cell0; have d1 := hx4.cell1; have d2 := hx4.cell2; have zd0 := hx4.free 0; have zd1 := hx4.free 1; have zd2 := hx4.free 2; have HX4 := Lib.hid hx4; have HY4 := Lib.hid (HY3.out.only ho4 (by have := HR3.out.lt; have := HBy.out.lt; simp at *; omega)); have HB4 := Lib.hid (ho4.new HB3.out (by have := HR3.out.lt; have := HBx.out.lt; simp at *; omega) HB3.out.size); have HGt : Hid (w.heap.size + 1 + 1 ≤ g') := (by have := HR3.out.lt; simp at this; exact Nat.le_trans hws this.1); clear hr4 ho4 hx4))
        all_goals go_wp2_with fail
        all_goals go_meet
        all_goals exact ⟨rfl, g', cap', HX4.out.set _ _ _, HY4.out.only (Box.onlySet _ _ _ _ _) (by omega), ((HR4.out.mono hws).owned).only (Box.onlySet _ _ _ _ _) (by have := HGt.out; omega), (Box.onlySet _ w.heap.size _ _ _).new HB4.out (Nat.le_refl _) HB4.out.size⟩
      case rest =>
        obtain ⟨rfl, g', cap', hx, hy, hr, hb⟩ := hcut
        have hgt := hr.lt
        clear a0 a1 a2 b0 b1 b2 zb0 zb1 zb2
        have a0 := hx.cell0
        have a1 := hx.cell1
        have a2 := hx.cell2
        have za2 := hx.free 2
        have HX := Lib.hid hx
        have HY := Lib.hid hy
        have HR := Lib.hid hr
        have HB := Lib.hid hb
        obtain ⟨mx, hmx⟩ : ∃ m, m = max cur least := ⟨_, rfl⟩
        have hmr : 0 ≤ mx ∧ mx ≤ 9223372036854775806 := by have := HLl.out; omega
        have hmxE : (if cur < least then least else cur) = mx := by rw [hmx]; split <;> omega
        have HCall := Lib.hid fun (u : World) (N : NS) (hu : RN u (w.heap.size + 1 + 1) g' cap' N) => HRs.out u _ g' cap' mx N hu (by omega)
        have HMx := Lib.hid hmx
        clear hx hy hr hb hmx
        go_upto_region 5 with fail
        have ho5 : Only wc (wc.setCell ⟨w.heap.size, 2, none⟩ (.int .u64 mx)) w.heap.size := Only.setCell _ _ _ _
        have hx5 := HX.out.set2 (.int .u64 mx)
        have HY5 := Lib.hid (HY.out.only ho5 (by omega))
        have HR5 := Lib.hid (HR.out.only ho5 (by omega))
        have HB5 := Lib.hid (ho5.new HB.out (Nat.le_refl _) HB.out.size)
        generalize wc.setCell ⟨w.heap.size, 2, none⟩ (.int .u64 mx) = w5 at *
        clear a0 a1 a2 za2 ho5
        have a0 := hx5.cell0
        have a1 := hx5.cell1
        have a2 := hx5.cell2
        clear hx5 hmxE
        go_wp2_with fail
        refine (HCall.out _ _ HR5.out).mono ?_
        rintro e w6 ⟨rfl, hr6, ho6⟩
        have hy6 := HY5.out.only ho6 (by omega)
        have HR6 := Lib.hid hr6
        have HY6 := Lib.hid hy6
        have HB6 := Lib.hid (ho6.new HB5.out (by omega) HB5.out.size)
        have b0 := hy6.cell0
        have b1 := hy6.cell1
        have b2 := hy6.cell2
        have zb0 := hy6.free 0
        have zb1 := hy6.free 1
        have zb2 := hy6.free 2
        clear hy6 hr6 ho6 a0 a1 a2
        go_wp2
        refine bodyPost_ret (results_box2 (p := 6) (q := 7) rfl (HY6.out.set _ _ _) _ rfl) rfl ?_
        have hcw : (s.winD kk least).cur = mx + 1 := by rw [hD.out, HMx.out, HCe.out]; rfl
        rw [hcw, hE.out]
        refine ⟨g', cap', rfl, ?_, (Box.onlySet _ (w.heap.size + 1) _ _ _).new HB6.out (by omega) HB6.out.size⟩
        have hrr := (HR6.out.only (Box.onlySet _ (w.heap.size + 1) (.int .i64 (self : Int)) (.slice (some ⟨g', 0, none⟩) 64 cap') (.int .u64 (mx + 1))) (by omega)).mono (B' := B) (by omega)
        rw [hD.out]
        refine hrr.ofEq (fun j _ => ?_) (fun j i _ _ => ?_)
        · rw [HMx.out, HCe.out, HSe.out]; rfl
        · rw [HSe.out]; rfl
    · have hE : Hid (winE kk least = 1) := by unfold winE; rw [if_neg (fun hh => hll hh.2)]; exact rfl
      have hD : Hid (s.winD kk least = s) := by unfold VS.winD; rw [if_neg (fun hh => hll hh.2)]; exact rfl
      have hl2 : 4611686018427387904 < least := by omega
      clear hk k0 k1 hll
      go_enter Try.func38, Try.ntmps38
      go_upto_region 1 with fail
      rw [HW2.out]
      go_wp2
      refine bodyPost_ret (results_box2 (p := 6) (q := 7) rfl (HBy.out.set _ _ _) _ rfl) rfl ?_
      exact ⟨g, cap, by rw [hE.out, hD.out, ← HCe.out]; rfl, by rw [hD.out]; exact HRn.out.only (Box.onlySet _ _ _ _ _) (by omega), (Box.onlySet _ (w.heap.size + 1) _ _ _).new HBel.out (by omega) HBel.out.size⟩
  · have hE : Hid (winE k least = 1) := by unfold winE; rw [if_neg (fun hh => hk hh.1)]; exact rfl
    have hD : Hid (s.winD k least = s) := by unfold VS.winD; rw [if_neg (fun hh => hk hh.1)]; exact rfl
    have hk2 : inSlot k = false := by cases h : inSlot k; rfl; exact absurd h hk
    have hk3 := inSlot_false hk2
    by_cases k0 : k < 0
    · clear hk hk2 hk3
      go_enter Try.func38, Try.ntmps38
      go_upto_region 1 with fail
      rw [HW2.out]
      go_wp2
      refine bodyPost_ret (results_box2 (p := 6) (q := 7) rfl (HBy.out.set _ _ _) _ rfl) rfl ?_
      exact ⟨g, cap, by rw [hE.out, hD.out, ← HCe.out]; rfl, by rw [hD.out]; exact HRn.out.only (Box.onlySet _ _ _ _ _) (by omega), (Box.onlySet _ (w.heap.size + 1) _ _ _).new HBel.out (by omega) HBel.out.size⟩
    · have k0d : decide (k < 0) = false := decide_eq_false k0
      have k1 : 16383 < k := by omega
      clear hk hk2 hk3 k0
      go_enter Try.func38, Try.ntmps38
      go_upto_region 1 with fail
      rw [HW2.out]
      go_wp2
      refine bodyPost_ret (results_box2 (p := 6) (q := 7) rfl (HBy.out.set _ _ _) _ rfl) rfl ?_
      exact ⟨g, cap, by rw [hE.out, hD.out, ← HCe.out]; rfl, by rw [hD.out]; exact HRn.out.only (Box.onlySet _ _ _ _ _) (by omega), (Box.onlySet _ (w.heap.size + 1) _ _ _).new HBel.out (by omega) HBel.out.size⟩
end Go.Proofs.Ytlccbgjlinlioaa
