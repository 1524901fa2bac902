/- The walk of Take: an update that is taken in. -/
import Derived.Test.YtlccbgjlinlioaaTakeA
namespace Go.Proofs.Ytlccbgjlinlioaa
open Go.RowKit

/-- the epochs and the claims of a packet are taken in -/
def VS.took (s : VS) (p : PK) (n : Nat) : VS := if s.ep n ≤ p.ep then (s.setCur (max s.cur p.cur)).claim n p.ep p.c else s.setCur (max s.cur p.cur)

theorem VS.Ok.setCur {s : VS} {M : Int} (h : s.Ok M) (v : Int) (h1 : s.cur ≤ v) (h2 : v ≤ M) : (s.setCur v).Ok M :=
  ⟨h.self, h.own, fun j => ⟨(h.ep j).1, Int.le_trans (h.ep j).2 h1⟩, h2⟩
theorem VS.Ok.took {s : VS} {M : Int} (h : s.Ok M) (hM : 4611686018427387904 ≤ M) {p : PK} (hp : p.Ok) (hc : p.cur ≤ 4611686018427387904) (hle : p.ep ≤ p.cur) (n : Nat) (hn : n < 64) : (s.took p n).Ok M := by
  have h1 : (s.setCur (max s.cur p.cur)).Ok M := h.setCur _ (by omega) (by have := h.cur; omega)
  unfold VS.took
  split
  · exact h1.claim n hn p.ep p.c ⟨hp.ep.1, by show p.ep ≤ max s.cur p.cur; omega⟩
  · exact h1

set_option maxRecDepth 100000 in
set_option maxHeartbeats 1600000 in
theorem take_upd {w : World} {g : Nat} {s : VS} (h : ViewAt w g s) {M : Int} (hok : s.Ok M) (hM : 4611686018427387904 ≤ M) {p : PK} (hp : p.Ok) (hr : p.right = true) (hc : p.cur ≤ 4611686018427387904) (hle : p.ep ≤ p.cur) (hf : p.frm ≠ s.self) (hk : p.kind = 3) (n : Nat) (hn : n < 64) (ho : p.of = n) (hos : p.of ≠ s.self) :
    Calls Try.prog 13 #[.pointer (some ⟨g, 0, none⟩), p.val] w fun e w' => e = .returned (.slice none 0 0) ∧ TakeW w g (s.took p n) p w' := by
  have HRt := Lib.hid fun (u : World) => right_any p u
  rw [hr] at HRt
  have HT : Hid (TakeW w g s p (w.alloc (.cells p.cells.toArray 29))) := ⟨h.below ((Below.refl _ _).alloc (Nat.le_refl _) _), heap_alloc_new w _, below_only ((Below.refl _ _).alloc (Nat.le_refl _) _) g, by simp⟩
  unfold PK.val at *
  have HPS : Hid (p.cells.toArray.size = 261) := by rw [List.size_toArray]; exact p.cells_len
  have HS29 : Hid ((Try.prog.info? 29).map (·.size) = some p.cells.toArray.size) := by rw [HPS.out]; exact size29
  obtain ⟨C, hC⟩ : ∃ C : World → Prop, C = fun u => TakeW w g s p u := ⟨_, rfl⟩
  have HCi : Hid (∀ u, C u → TakeW w g s p u) := fun u h => by rw [hC] at h; exact h
  have HCo : Hid (∀ u, TakeW w g s p u → C u) := fun u h => by rw [hC]; exact h
  have HC0 : Hid (C (w.alloc (.cells p.cells.toArray 29)).drew) := HCo.out _ HT.out.drew
  have KB : Hid (∀ u, C u → u.heap[w.heap.size]? = some (.cells p.cells.toArray 29 (0, 0))) := fun u hu => (HCi.out u hu).pkt
  have K1 : Hid (∀ u, C u → u.cell? ⟨w.heap.size, 1, none⟩ = some (.int .i64 p.frm)) := fun u hu => (HCi.out u hu).pkt.frm
  have K2 : Hid (∀ u, C u → u.cell? ⟨w.heap.size, 2, none⟩ = some (.int .i64 p.of)) := fun u hu => (HCi.out u hu).pkt.of
  have K4 : Hid (∀ u, C u → u.cell? ⟨w.heap.size, 4, none⟩ = some (.int .u64 p.cur)) := fun u hu => (HCi.out u hu).pkt.cur
  have KG : Hid (∀ u, C u → u.cell? ⟨g, 0, none⟩ = some (.int .i64 s.self)) := fun u hu => (HCi.out u hu).view.self
  have KR : Hid (∀ u, C u → Calls Try.prog 31 #[.agg p.cells.toArray] u fun e u' => e = .returned (.bool true) ∧ C u') := fun u hu => class_call (HRt.out u) fun u' hb => HCo.out _ ((HCi.out _ hu).below hb)
  have d0 := HT.out.pkt.kind
  have hcd : decide (4611686018427387904 < p.cur) = false := decide_eq_false (by omega)
  have hfb : (p.frm == (s.self : Int)) = false := by rw [beq_eq_false_iff_ne]; exact hf
  have hob : ((n : Int) == (s.self : Int)) = false := by rw [beq_eq_false_iff_ne, ← ho]; exact hos
  rw [ho] at K2
  rw [hk] at d0
  have hgl := h.lt
  have hni : (0 : Int) ≤ (n : Int) ∧ (n : Int) < 64 := by omega
  have hok1 := hok.setCur (max s.cur p.cur) (by omega) (by have := hok.cur; omega)
  have HC1 := Lib.hid fun (u : World) (hu : ViewAt u g (s.setCur (max s.cur p.cur))) => claim_any hu hok1 n hn hp (by show p.ep ≤ max s.cur p.cur; omega)
  have HTk : Hid (s.took p n = if s.ep n ≤ p.ep then (s.setCur (max s.cur p.cur)).claim n p.ep p.c else s.setCur (max s.cur p.cur)) := rfl
  have hce := hok.cur
  have hpc := hp.cur
  unfold PK.val at HC1
  generalize hPC : p.cells.toArray = PC at *
  have HPC := Lib.hid hPC
  clear hPC hC h hr hok hok1
  go_enter Try.func13, Try.ntmps13
  go_wp2_with fail
  refine wp_region_class (C := C) (by kernel_rfl) (by kernel_rfl) HC0.out ?_
  repeat (first
    | go_big_quiet_skip
    | (go_big_quiet_want; refine quiet_load_row 29 (.tmp 3) rfl _ rfl 29 _ _ _ KB.out Try.underlying29 rfl HS29.out ?_; simp only [Act.put, List.setIfInBounds_toArray, List.set_cons_succ, List.set_cons_zero]; go_big_quiet_on)
    | (go_big_quiet_want; refine quiet_load_cell 22 (.tmp 16) rfl _ rfl _ K4.out isAgg22 ?_; simp only [Act.put, List.setIfInBounds_toArray, List.set_cons_succ, List.set_cons_zero]; go_big_quiet_on)
    | (go_big_quiet_want; refine quiet_load_cell 3 (.tmp 21) rfl _ rfl _ K1.out isAgg3 ?_; simp only [Act.put, List.setIfInBounds_toArray, List.set_cons_succ, List.set_cons_zero]; go_big_quiet_on)
    | (go_big_quiet_want; refine quiet_load_cell 3 (.tmp 25) rfl _ rfl _ KG.out isAgg3 ?_; simp only [Act.put, List.setIfInBounds_toArray, List.set_cons_succ, List.set_cons_zero]; go_big_quiet_on)
    | (go_big_quiet_want; refine quiet_load_cell 3 (.tmp 32) rfl _ rfl _ K2.out isAgg3 ?_; simp only [Act.put, List.setIfInBounds_toArray, List.set_cons_succ, List.set_cons_zero]; go_big_quiet_on)
    | (go_big_quiet_want; refine quiet_load_cell 3 (.tmp 36) rfl _ rfl _ KG.out isAgg3 ?_; simp only [Act.put, List.setIfInBounds_toArray, List.set_cons_succ, List.set_cons_zero]; go_big_quiet_on)
    | (go_big_quiet_want; go_big_quiet_op; first
        | go_big_quiet_on
        | (refine ⟨_, fun _ _ => rfl, ?_⟩; go_big_quiet_on)
        | (refine ⟨_, KR.out, ?_⟩; go_big_quiet_on)))
  refine wpQuiet_nil ?_
  intro wz hwz
  have HTz := Lib.hid (HCi.out _ hwz)
  clear hwz
  have e1 : wz.cell? ⟨w.heap.size, 1, none⟩ = some (.int .i64 p.frm) := HTz.out.pkt.frm
  have e2 : wz.cell? ⟨w.heap.size, 2, none⟩ = some (.int .i64 n) := by rw [← ho]; exact HTz.out.pkt.of
  go_upto_region 7 with fail
  go_cut [6] (fun v wx => v = .int .i64 n ∧ TakeW w g (s.setCur (max s.cur p.cur)) p wx)
  case first =>
    have c1 := HTz.out.view.cur
    have z1 := HTz.out.view.free 16449
    have e4 := HTz.out.pkt.cur
    have HM1 : Hid (TakeW w g (s.setCur s.cur) p (wz.setCell ⟨g, 16449, none⟩ (.int .u64 s.cur)).drew) := HTz.out.on hgl (HTz.out.view.setCur s.cur).drew (Only.setCell _ _ _ _).drew
    have HM2 : Hid (TakeW w g (s.setCur p.cur) p (wz.setCell ⟨g, 16449, none⟩ (.int .u64 p.cur)).drew) := HTz.out.on hgl (HTz.out.view.setCur p.cur).drew (Only.setCell _ _ _ _).drew
    go_region
    all_goals go_wp2_with fail
    all_goals go_meet
    all_goals first
      | (rw [show max s.cur p.cur = s.cur by omega]; exact ⟨rfl, HM1.out⟩)
      | (rw [show max s.cur p.cur = p.cur by omega]; exact ⟨rfl, HM2.out⟩)
  case rest =>
    obtain ⟨rfl, hcut⟩ := hcut
    have HTc := Lib.hid hcut
    have e1 := hcut.pkt.ep
    have e2 := hcut.view.ep n hn
    have KB2 : Hid (∀ m, (wc.drewN m).heap[w.heap.size]? = some (.cells PC 29 (0, 0))) := fun m => by rw [← HPC.out]; exact hcut.pkt
    clear e1 e2
    have e1 : wc.drew.cell? ⟨w.heap.size, 3, none⟩ = some (.int .u64 p.ep) := hcut.pkt.ep
    have e2 : wc.drew.cell? ⟨g, 16385 + n, none⟩ = some (.int .u64 (s.ep n)) := hcut.view.ep n hn
    have e1' := hcut.pkt.ep
    have e2' : wc.cell? ⟨g, 16385 + n, none⟩ = some (.int .u64 (s.ep n)) := hcut.view.ep n hn
    clear hcut
    generalize s.ep n = en at *
    by_cases hge : en ≤ p.ep
    · rw [if_pos hge] at HTk
      go_wp2_with fail
      go_quiet (fail)
      go_wp2_with (with_reducible refine wpList_load_row rfl 29 (.tmp 3) rfl w.heap.size rfl 29 PC (0, 0) _ (KB2.out _) Try.underlying29 rfl HS29.out ?_)
      refine (HC1.out _ (HTc.out.below (below_drewN (Below.refl _ _) _)).view).mono ?_
      rintro e w' ⟨rfl, hv, ho⟩
      have HF : Hid (TakeW w g (s.took p n) p w') := by rw [HTk.out]; exact (HTc.out.below (below_drewN (Below.refl _ _) _)).on hgl hv ho
      clear hv ho
      go_wp2
      go_ret
      exact ⟨rfl, HF.out⟩
    · rw [if_neg hge] at HTk
      go_wp2_with fail
      go_quiet (fail)
      go_wp2
      go_ret
      exact ⟨rfl, by rw [HTk.out]; exact HTc.out.below (below_drewN (Below.refl _ _) _)⟩
end Go.Proofs.Ytlccbgjlinlioaa
