/- ViewOwners: the walk of the law. -/
import Derived.Test.YtlccbgjlinlioaaAll
namespace Go.Proofs.Ytlccbgjlinlioaa
open Go.RowKit

set_option maxRecDepth 100000 in
set_option maxHeartbeats 1600000 in
theorem owners_walk {w : World} {q : BG} (hq : q.Ok) {v : Value} {os : List OPV} (hos : OpsIn w v os) (n : Int) :
    Calls Try.prog 5 #[q.val, v, .int .i64 n] w fun e w' => e = .returned (.bool true) ∧ Below w.heap.size w w' := by
  have hb0 : (w.alloc (.cells q.cells.toArray 26)).heap[w.heap.size]? = some (.cells q.cells.toArray 26 (0, 0)) := heap_alloc_new w _
  have hbel : Below w.heap.size w (w.alloc (.cells q.cells.toArray 26)) := (Below.refl _ _).alloc (Nat.le_refl _) _
  have HBg := Lib.hid fun (u : World) (hu : OpsIn u v os) => begun_any hq hu
  have HOs := Lib.hid (hos.belowN hbel)
  have HS26 : Hid ((Try.prog.info? 26).map (·.size) = some q.cells.toArray.size) := by rw [List.size_toArray, BG.cells_len]; exact size26
  have HAl := Lib.hid alive_any
  unfold BG.val at *
  generalize q.cells.toArray = QC at *
  generalize hw1 : w.alloc (.cells QC 26) = w1 at *
  have HW1 := Lib.hid hw1
  have HB0 := Lib.hid hb0
  have HBel := Lib.hid hbel
  clear hw1 hb0 hbel hos hq
  go_enter Try.func5, Try.ntmps5
  go_upto_region 1 with fail
  rw [HW1.out]
  go_wp2_with (with_reducible refine wpList_load_row rfl 26 (.tmp 3) rfl w.heap.size rfl 26 QC (0, 0) _ HB0.out Try.underlying26 rfl HS26.out ?_)
  refine (HBg.out _ HOs.out).mono ?_
  rintro e w2 ⟨hb2, ⟨me, ao, n2, cap, cur, rfl⟩ | ⟨g, gr, cap, B, s, rfl, hv, hgl, hgB, hrn, hok⟩⟩
  · have HB2 := Lib.hid (laws_nil HBel.out hb2)
    clear hb2
    go_wp2_with fail
    refine (HAl.out _).mono ?_
    rintro e w3 ⟨rfl, hb3⟩
    have HB3 := Lib.hid ((HB2.out _).trans (hb3.mono (HB2.out _).size))
    clear hb3
    go_wp2
    go_ret
    exact ⟨rfl, HB3.out⟩
  · have HS := Lib.hid (laws_start HBel.out hb2 hv hrn)
    have HOk := Lib.hid hok
    unfold refVal
    clear hb2 hv hrn hok
    go_upto_region 2 with fail
    generalize w2.alloc (.cells #[.int .i64 (s.self : Int), .slice (some ⟨gr, 0, none⟩) 64 cap, .int .u64 s.cur] 33) = w3 at *
    generalize w2.heap.size = r at *
    obtain ⟨C, hC⟩ : ∃ C : World → Prop, C = fun u => LawS w g B gr cap r s u := ⟨_, rfl⟩
    have HCi : Hid (∀ u, C u → LawS w g B gr cap r s u) := fun u h => by rw [hC] at h; exact h
    have HCo : Hid (∀ u, LawS w g B gr cap r s u → C u) := fun u h => by rw [hC]; exact h
    have HC0 : Hid (C w3.drew) := HCo.out _ HS.out.drew
    have HCb : Hid (∀ u, C u → Below w.heap.size w u) := fun u hu => (HCi.out u hu).bel
    have KL : Hid (∀ u, C u → u.heap[r]? = some (.cells #[.int .i64 (s.self : Int), .slice (some ⟨gr, 0, none⟩) 64 cap, .int .u64 s.cur] 33 (0, 0))) := fun u hu => (HCi.out u hu).box.heap
    have HS33 : Hid ((Try.prog.info? 33).map (·.size) = some (#[Value.int .i64 (s.self : Int), .slice (some ⟨gr, 0, none⟩) 64 cap, .int .u64 s.cur] : Array Value).size) := size33
    have KA : Hid (∀ u, C u → Calls Try.prog 12 #[] u fun e u' => e = .returned (.bool true) ∧ C u') := fun u hu => class_call (HAl.out u) fun u' hb => HCo.out _ ((HCi.out _ hu).belowW hb)
    have KO : Hid (∀ u, C u → Calls Try.prog 22 #[.pointer (some ⟨g, 0, none⟩), .int .i64 n] u fun e u' => e = .returned (.int .i64 (s.owner n)) ∧ C u') := fun u hu => class_same (owner_any (HCi.out u hu).view HOk.out n) hu
    have KR : Hid (∀ u, C u → Calls Try.prog 23 #[.agg #[.int .i64 (s.self : Int), .slice (some ⟨gr, 0, none⟩) 64 cap, .int .u64 s.cur], .int .i64 n] u fun e u' => e = .returned (.int .i64 (s.owner n)) ∧ C u') := fun u hu => class_call (rowner_any (HCi.out u hu).rn HOk.out n) fun u' hb => HCo.out _ ((HCi.out _ hu).belowW hb)
    generalize s.owner n = ow at *
    clear hC HCi HCo HS
    go_wp2_with fail
    refine wp_region_class (C := C) (by kernel_rfl) (by kernel_rfl) HC0.out ?_
    repeat (first
      | go_big_quiet_skip
      | (go_big_quiet_want; refine quiet_load_row 33 (.tmp 8) rfl _ rfl 33 _ _ _ KL.out Try.underlying33 rfl HS33.out ?_; simp only [Act.put, List.setIfInBounds_toArray, List.set_cons_succ, List.set_cons_zero]; go_big_quiet_on)
      | (go_big_quiet_want; go_big_quiet_op; first
          | go_big_quiet_on
          | (refine ⟨_, fun _ _ => rfl, ?_⟩; go_big_quiet_on)
          | (refine ⟨_, KA.out, ?_⟩; go_big_quiet_on)
          | (refine ⟨_, KO.out, ?_⟩; go_big_quiet_on)
          | (refine ⟨_, KR.out, ?_⟩; go_big_quiet_on)))
    refine wpQuiet_nil ?_
    intro wz hwz
    have HBz := Lib.hid (HCb.out _ hwz)
    clear hwz
    go_wp2
    go_ret
    exact ⟨rfl, HBz.out⟩
end Go.Proofs.Ytlccbgjlinlioaa
