/- The document's Take: an update that is taken in. -/
import Derived.Test.YtlccbgjlinlioaaRTakeA
namespace Go.Proofs.Ytlccbgjlinlioaa
open Go.RowKit

set_option maxRecDepth 100000 in
set_option maxHeartbeats 1600000 in
theorem rtake_upd {w : World} {B g cap : Nat} {s : VS} (h : RN w B g cap (NS.of s)) {M : Int} (hok : s.Ok M) (hM : 4611686018427387904 ≤ M) (hM2 : M ≤ 9223372036854775806) {p : PK} (hp : p.Ok) (hr : p.right = true) (hc : p.cur ≤ 4611686018427387904) (hle : p.ep ≤ p.cur) (hf : p.frm ≠ s.self) (hk : p.kind = 3) (n : Nat) (hn : n < 64) (ho : p.of = n) (hos : p.of ≠ s.self) :
    Calls Try.prog 37 #[refVal s.self g cap s.cur, p.val] w fun e w' => ∃ g' cap', e = .returned (.tuple #[refVal s.self g' cap' (s.took p n).cur, .slice none 0 0]) ∧ RN w' B g' cap' (NS.of (s.took p n)) ∧ Below w.heap.size w w' := by
  have hgl := h.lt
  obtain ⟨self, hself⟩ : ∃ x, x = s.self := ⟨_, rfl⟩
  obtain ⟨cur, hcur⟩ : ∃ x, x = s.cur := ⟨_, rfl⟩
  have HSe := Lib.hid hself
  have HCe := Lib.hid hcur
  rw [← hself] at hf hos ⊢
  rw [← hcur]
  have hs := rts_start w g cap self cur p
  have hrn := h.belowN hs.bel hgl.2
  have HRt := Lib.hid fun (u : World) => rright_any p u
  rw [hr] at HRt
  have HCp := Lib.hid fun (u : World) (hu : RN u B g cap (NS.of s)) => copied_any (self := self) (cur := cur) hu
  obtain ⟨mx, hmx⟩ : ∃ m, m = max cur p.cur := ⟨_, rfl⟩
  have hmxE : (if cur < p.cur then p.cur else cur) = mx := by rw [hmx]; split <;> omega
  have HMx := Lib.hid hmx
  have hokm : (s.setCur mx).Ok M := hok.setCur mx (by omega) (by have := hok.cur; omega)
  have HOkm := Lib.hid hokm
  have HCl := Lib.hid fun (u : World) (B' g' cap' : Nat) (hu : RN u B' g' cap' (NS.of s)) => rclaim_any (self := self) (cur := mx) hu (NS.of_lt s) n hn hp
  have HTk : Hid (s.took p n = if s.ep n ≤ p.ep then (s.setCur mx).claim n p.ep p.c else s.setCur mx) := by unfold VS.took; rw [hmx, hcur]; exact rfl
  have HOkT := Lib.hid (hok.took hM hp hc hle n hn)
  have HP := Lib.hid hp
  unfold refVal at *
  unfold PK.val at *
  have HPS : Hid (p.cells.toArray.size = 261) := by rw [List.size_toArray]; exact p.cells_len
  have HS29 : Hid ((Try.prog.info? 29).map (·.size) = some p.cells.toArray.size) := by rw [HPS.out]; exact size29
  have HPkt : Hid (∀ u : World, PktAt u (w.heap.size + 1) p → u.heap[w.heap.size + 1]? = some (.cells p.cells.toArray 29 (0, 0))) := fun u hu => hu
  generalize p.cells.toArray = PC at *
  generalize hw2 : ((w.alloc (.cells #[.int .i64 (self : Int), .slice (some ⟨g, 0, none⟩) 64 cap, .int .u64 cur] 33)).alloc (.cells PC 29)).alloc (.cells #[.int .i64 0, .slice none 0 0, .int .u64 0] 33) = w2 at *
  have HW2 := Lib.hid hw2
  have HS := Lib.hid hs
  have HRn := Lib.hid hrn
  have HP2 := Lib.hid (HPkt.out w2 hs.pkt)
  have d0 := hs.pkt.kind
  have hcd : decide (4611686018427387904 < p.cur) = false := decide_eq_false (by omega)
  have hni : (0 : Int) ≤ (n : Int) ∧ (n : Int) < 64 := by omega
  have hfb : (p.frm == (self : Int)) = false := by rw [beq_eq_false_iff_ne]; exact hf
  have hob : ((n : Int) == (self : Int)) = false := by rw [beq_eq_false_iff_ne, ← ho]; exact hos
  have HCur : Hid ((s.took p n).cur = mx) := by
    rw [HTk.out]
    split
    · rw [claim_cur]; exact rfl
    · exact rfl
  rw [hk] at d0
  clear hw2 hs hrn h hr hok hokm hp hself hcur hmx hk hf
  go_enter Try.func37, Try.ntmps37
  go_upto_region 1 with fail
  rw [HW2.out]
  go_wp2_with (with_reducible refine wpList_load_row rfl 29 (.tmp 3) rfl (w.heap.size + 1) rfl 29 PC (0, 0) _ HP2.out Try.underlying29 rfl HS29.out ?_)
  refine (HRt.out _).mono ?_
  rintro e w3 ⟨rfl, hb3⟩
  have hs3 := HS.out.below hb3
  have HS3 := Lib.hid hs3
  have HR3 := Lib.hid (HRn.out.below hb3)
  have c1 := hs3.pkt.frm
  have c2 := hs3.pkt.of
  have c4 := hs3.pkt.cur
  have a0 := hs3.box.cell0
  have a1 := hs3.box.cell1
  have a2 := hs3.box.cell2
  have b0 := hs3.res.cell0
  have b1 := hs3.res.cell1
  have b2 := hs3.res.cell2
  have zb0 := hs3.res.free 0
  have zb1 := hs3.res.free 1
  have zb2 := hs3.res.free 2
  rw [ho] at c2
  clear hs3 hb3
  go_wp2_with fail
  refine (HCp.out _ HR3.out).mono ?_
  rintro e w4 ⟨g', cap', rfl, hr4, hb4⟩
  have hw3s := HS3.out.res.lt
  have hgt := hr4.lt
  have HS4 := Lib.hid (HS3.out.below hb4)
  have HR4 := Lib.hid hr4
  clear a0 a1 a2 b0 b1 b2 zb0 zb1 zb2 c1 c2 c4 hr4 hb4
  have a0 := HS4.out.box.cell0
  have a1 := HS4.out.box.cell1
  have a2 := HS4.out.box.cell2
  have za0 := HS4.out.box.free 0
  have za1 := HS4.out.box.free 1
  have za2 := HS4.out.box.free 2
  have c1 := HS4.out.pkt.frm
  have c2 := HS4.out.pkt.of
  have c4 := HS4.out.pkt.cur
  rw [ho] at c2
  go_upto_region 8 with fail
  have ho5 := Box.onlySet w4 w.heap.size (.int .i64 (self : Int)) (.slice (some ⟨g', 0, none⟩) 64 cap') (.int .u64 cur)
  have HS5 := Lib.hid (HS4.out.setBox g' cap' cur)
  have HR5 := Lib.hid (HR4.out.only ho5 (by omega))
  generalize (((w4.setCell ⟨w.heap.size, 0, none⟩ (.int .i64 (self : Int))).setCell ⟨w.heap.size, 1, none⟩ (.slice (some ⟨g', 0, none⟩) 64 cap')).setCell ⟨w.heap.size, 2, none⟩ (.int .u64 cur)) = w5 at *
  clear a0 a1 a2 za0 za1 za2 c1 c2 c4 ho5
  have a2 := HS5.out.box.cell2
  have za2 := HS5.out.box.free 2
  have c4 := HS5.out.pkt.cur
  go_upto_region 9 with fail
  have ho6 : Only w5 (w5.setCell ⟨w.heap.size, 2, none⟩ (.int .u64 mx)) w.heap.size := Only.setCell _ _ _ _
  have HS6 := Lib.hid (HS5.out.setCur mx)
  have HR6 := Lib.hid (HR5.out.only ho6 (by omega))
  generalize w5.setCell ⟨w.heap.size, 2, none⟩ (.int .u64 mx) = w6 at *
  clear a2 za2 c4 ho6 hmxE
  have a1 := HS6.out.box.cell1
  have c3 := HS6.out.pkt.ep
  have e1 : w6.cell? ⟨g', n * 257, none⟩ = some (.int .u64 (s.ep n)) := HR6.out.ep n hn
  generalize s.ep n = en at *
  go_quiet (fail)
  go_upto_if 60 with fail
  go_cut [7] (fun v wx => v = .int .i64 n ∧ RtS w g' cap' self mx p wx ∧ RN wx w3.heap.size g' cap' (NS.of (s.took p n)))
  case first =>
    have HS7 : Hid (∀ m, RtS w g' cap' self mx p (w6.drewN m)) := fun m => HS6.out.below (below_drewN (Below.refl _ _) m)
    have HR7 : Hid (∀ m, RN (w6.drewN m) w3.heap.size g' cap' (NS.of s)) := fun m => HR6.out.below (below_drewN (Below.refl _ _) m)
    by_cases hge : p.ep ≥ en
    · have hk1 := HTk.out
      rw [if_pos hge] at hk1
      have HK1 := Lib.hid hk1
      have HP7 : Hid (∀ m, (w6.drewN m).heap[w.heap.size + 1]? = some (.cells PC 29 (0, 0))) := fun m => HPkt.out _ (HS7.out m).pkt
      have a0 := HS6.out.box.cell0
      have a2 := HS6.out.box.cell2
      clear hk1
      go_wp2_with (with_reducible refine wpList_load_row rfl 29 (.tmp 3) rfl (w.heap.size + 1) rfl 29 PC (0, 0) _ (HP7.out _) Try.underlying29 rfl HS29.out ?_)
      refine (HCl.out _ _ _ _ (HR7.out _)).mono ?_
      rintro e w8 ⟨rfl, hr8, ho8⟩
      have HS8 := Lib.hid ((HS7.out _).only ho8 (by omega))
      have HR8 : Hid (RN w8 w3.heap.size g' cap' (NS.of (s.took p n))) := by
        rw [HK1.out]
        exact RN.claimed HOkm.out hn HP.out hr8
      clear a0 a1 a2 c3 e1 hr8 ho8
      have a0 := HS8.out.box.cell0
      have a1 := HS8.out.box.cell1
      have a2 := HS8.out.box.cell2
      have za0 := HS8.out.box.free 0
      have za1 := HS8.out.box.free 1
      have za2 := HS8.out.box.free 2
      have HS9 := Lib.hid (HS8.out.setBox g' cap' mx)
      have HR9 := Lib.hid (HR8.out.only (Box.onlySet w8 w.heap.size (.int .i64 (self : Int)) (.slice (some ⟨g', 0, none⟩) 64 cap') (.int .u64 mx)) (by omega))
      go_wp2_with fail
      go_meet
      exact ⟨rfl, HS9.out, HR9.out⟩
    · have hk1 := HTk.out
      rw [if_neg hge] at hk1
      have HK1 := Lib.hid hk1
      have hged : decide (en ≤ p.ep) = false := decide_eq_false hge
      clear hk1
      go_wp2_with fail
      go_meet
      exact ⟨rfl, HS7.out _, by rw [HK1.out]; exact RN.cured mx (HR7.out _)⟩
  case rest =>
    obtain ⟨rfl, hs9, hr9⟩ := hcut
    have HS9 := Lib.hid hs9
    have HR9 := Lib.hid hr9
    clear a1 c3 e1 hs9 hr9 HS6 HR6 HS5 HR5
    have a0 := HS9.out.box.cell0
    have a1 := HS9.out.box.cell1
    have a2 := HS9.out.box.cell2
    have b0 := HS9.out.res.cell0
    have b1 := HS9.out.res.cell1
    have b2 := HS9.out.res.cell2
    have zb0 := HS9.out.res.free 0
    have zb1 := HS9.out.res.free 1
    have zb2 := HS9.out.res.free 2
    go_wp2
    refine bodyPost_ret (results_box2 (p := 4) (q := 5) rfl (HS9.out.res.set _ _ _) _ rfl) rfl ?_
    rw [HCur.out]
    exact ⟨g', cap', rfl, (HR9.out.only (Box.onlySet _ _ _ _ _) (by omega)).mono (by omega), (Box.onlySet _ (w.heap.size + 1 + 1) _ _ _).new HS9.out.bel (by omega) HS9.out.bel.size⟩

end Go.Proofs.Ytlccbgjlinlioaa
