/- ViewWins: the walk of the law. -/
import Derived.Test.YtlccbgjlinlioaaAll
import Derived.Test.YtlccbgjlinlioaaPlain2
import Derived.Test.YtlccbgjlinlioaaKit
namespace Go.Proofs.Ytlccbgjlinlioaa
open Go.RowKit Go.ChangeShapes Go.WideShapes Go.ChangeAt

theorem cells65 : Try.prog.cellsOf 65 = 2 := by kernel_rfl
theorem open_win {H : Type} {enc : TypeId × Value → H} {W : World} {base : Nat} {v : Value} {d : DataW H} {p : List MemPlace} (hv : Value.okWide Try.prog W .any base 65 v)
    (h : DataW.Trod enc Try.prog W 0 (fun _ => true) true 65 v d p) : ∃ x y : Int, 0 ≤ y ∧ v = .agg #[.int .i64 x, .int .u64 y] := by
  obtain ⟨cs, rfl⟩ := okWide_struct Try.underlying65 hv
  obtain ⟨fuel, hf⟩ := h
  obtain ⟨xs, k, _, _, hl, hxl, hf⟩ := DataW.trod_struct Try.underlying65 hf
  rw [cells65] at hl
  simp only [Value.cells] at hl hf
  match xs, hxl with
  | [y0, y1], _ =>
    have g0 : DataW.trod enc Try.prog W 0 (fun _ => true) true k 3 ((cs.toList.drop 0).take (Try.prog.cellsOf 3)) = some y0 := hf 0 _ rfl
    rw [cells3] at g0
    have g1 : DataW.trod enc Try.prog W 0 (fun _ => true) true k 22 ((cs.toList.drop 1).take (Try.prog.cellsOf 22)) = some y1 := hf 1 _ rfl
    rw [cells22] at g1
    obtain ⟨z0, e0, _, _⟩ := DataW.trod_int Try.underlying3 g0
    obtain ⟨z1, e1, _, w1⟩ := DataW.trod_int Try.underlying22 g1
    refine ⟨z0, z1, (u64_rng w1).1, ?_⟩
    have e6 : (cs.toList.drop 1).take 1 = cs.toList.drop 1 := List.take_of_length_le (by simp at hl ⊢; omega)
    have e8 : cs.toList = [.int .i64 z0, .int .u64 z1] := by
      have e7 : cs.toList = cs.toList.drop 0 := rfl
      rw [e7, piece cs.toList 0 1, e0, Nat.zero_add, ← e6, e1]
      rfl
    rw [← Array.toArray_toList (xs := cs), e8]

set_option maxRecDepth 100000 in
set_option maxHeartbeats 1600000 in
theorem wins_walk {w : World} {q : BG} (hq : q.Ok) {v : Value} {os : List OPV} (hos : OpsIn w v os) {x y : Int} (hy : 0 ≤ y) :
    Calls Try.prog 8 #[q.val, v, .agg #[.int .i64 x, .int .u64 y]] w fun e w' => e = .returned (.bool true) ∧ Below w.heap.size w w' := by
  have hbel : Below w.heap.size w ((w.alloc (.cells q.cells.toArray 26)).alloc (.cells #[.int .i64 x, .int .u64 y] 65)) := below2 _ _ _
  have hb0 : ((w.alloc (.cells q.cells.toArray 26)).alloc (.cells #[.int .i64 x, .int .u64 y] 65)).heap[w.heap.size]? = some (.cells q.cells.toArray 26 (0, 0)) := by
    rw [Below.heap_alloc _ _ _ (by simp)]
    exact heap_alloc_new w _
  have hb1 : ((w.alloc (.cells q.cells.toArray 26)).alloc (.cells #[.int .i64 x, .int .u64 y] 65)).heap[w.heap.size + 1]? = some (.cells #[.int .i64 x, .int .u64 y] 65 (0, 0)) := by
    have := heap_alloc_new (w.alloc (.cells q.cells.toArray 26)) (.cells #[.int .i64 x, .int .u64 y] 65)
    simpa using this
  have HBg := Lib.hid fun (u : World) (hu : OpsIn u v os) => begun_any hq hu
  have HOs := Lib.hid (hos.belowN hbel)
  have HS26 : Hid ((Try.prog.info? 26).map (·.size) = some q.cells.toArray.size) := by rw [List.size_toArray, BG.cells_len]; exact size26
  have HAl := Lib.hid alive_any
  unfold BG.val at *
  generalize q.cells.toArray = QC at *
  generalize hw1 : (w.alloc (.cells QC 26)).alloc (.cells #[.int .i64 x, .int .u64 y] 65) = w1 at *
  have HW1 := Lib.hid hw1
  have HB0 := Lib.hid hb0
  have HBel := Lib.hid hbel
  have c0 : w1.cell? ⟨w.heap.size + 1, 0, none⟩ = some (.int .i64 x) := (cell_of_row _ _ _ _ _ _ hb1).trans rfl
  have c1 : w1.cell? ⟨w.heap.size + 1, 1, none⟩ = some (.int .u64 y) := (cell_of_row _ _ _ _ _ _ hb1).trans rfl
  clear hw1 hb0 hb1 hbel hos hq
  go_enter Try.func8, Try.ntmps8
  go_upto_region 1 with fail
  rw [HW1.out]
  go_quiet (fail)
  have HB0d : Hid ((w1.drewN nq).heap[w.heap.size]? = some (.cells QC 26 (0, 0))) := HB0.out
  have HOsd : Hid (OpsIn (w1.drewN nq) v os) := HOs.out
  have HBeld : Hid (Below w.heap.size w (w1.drewN nq)) := below_drewN HBel.out _
  generalize w1.drewN nq = w1d at *
  clear c0 c1
  go_wp2_with (with_reducible refine wpList_load_row rfl 26 (.tmp 3) rfl w.heap.size rfl 26 QC (0, 0) _ HB0d.out Try.underlying26 rfl HS26.out ?_)
  refine (HBg.out _ HOsd.out).mono ?_
  rintro e w2 ⟨hb2, ⟨me, ao, n2, cap, cur, rfl⟩ | ⟨g, gr, cap, B, s, rfl, hv, hgl, hgB, hrn, hok⟩⟩
  · have HB2 := Lib.hid (laws_nil HBeld.out hb2)
    clear hb2
    go_wp2_with fail
    refine (HAl.out _).mono ?_
    rintro e w3 ⟨rfl, hb3⟩
    have HB3 := Lib.hid ((HB2.out _).trans (hb3.mono (HB2.out _).size))
    clear hb3
    go_wp2
    go_ret
    exact ⟨rfl, HB3.out⟩
  · have HS := Lib.hid (laws_start HBeld.out hb2 hv hrn)
    have HOk := Lib.hid hok
    have HGw : Hid (w.heap.size ≤ g) := Nat.le_trans HBeld.out.size hgl
    have hself := hok.self
    unfold refVal
    clear hb2 hv hrn hok
    go_upto_region 3 with fail
    generalize w2.alloc (.cells #[.int .i64 (s.self : Int), .slice (some ⟨gr, 0, none⟩) 64 cap, .int .u64 s.cur] 33) = w3 at *
    generalize w2.heap.size = r at *
    have HWn := Lib.hid (win_any HS.out.view HOk.out (by omega) (by omega) x y hy)
    have HOk2 := Lib.hid (HOk.out.winD (by omega) x y hy)
    by_cases hc : inSlot x = true ∧ y ≤ 4611686018427387904
    · have hE : winE x y = 0 := by unfold winE; rw [if_pos hc]
      have hD : s.winD x y = s.win x y := by unfold VS.winD; rw [if_pos hc]
      rw [hE, hD] at HWn
      rw [hD] at HOk2
      obtain ⟨h0, h1⟩ := inSlot_true hc.1
      obtain ⟨k, rfl⟩ := Int.eq_ofNat_of_zero_le h0
      have hx : (s.win k y).owner k = s.self := by
        unfold VS.owner
        rw [if_pos hc.1, Int.toNat_natCast, win_own]
      have hsf : (s.win k y).self = s.self := rfl
      have hep : ∀ j : Nat, j < 64 → (s.win k y).epoch j = if j = s.self then max s.cur y + 1 else s.ep j := fun j hj => by rw [VS.epoch_at _ _ hj]; exact win_ep _ _ _ _
      have hcu : (s.win k y).cur = max s.cur y + 1 := rfl
      have hepo := Lib.hid HOk.out.ep
      have hmx : s.cur ≤ max s.cur y ∧ y ≤ max s.cur y := by omega
      have hse := hep s.self hself
      rw [if_pos rfl] at hse
      generalize s.win k y = t at *
      generalize max s.cur y = mx at *
      have HEp := Lib.hid hep
      have HSe := Lib.hid hse
      have HX := Lib.hid hx
      have HCu := Lib.hid hcu
      have HSf := Lib.hid hsf
      clear hc hE hD hep hse hx hcu hsf
      go_wp2_with fail
      refine HWn.out.mono ?_
      rintro e w4 ⟨rfl, hv4, ho4⟩
      have HV4 := Lib.hid hv4
      have HB4 : Hid (Below w.heap.size w w4) := ho4.new HS.out.bel HGw.out HS.out.bel.size
      clear hv4 ho4 HWn
      go_wp2_with fail
      go_loopw [54] (fun c wx => ∃ m : Nat, m ≤ 64 ∧ c = .int .i64 m ∧ w4 = wx) (fun c _ => 64 - (intOf c).toNat)
      case atStart => exact ⟨0, by omega, rfl, rfl⟩
      case round =>
        obtain ⟨m, hm, rfl, rfl⟩ := hrel
        have HSelf : Hid (Calls Try.prog 27 #[.pointer (some ⟨g, 0, none⟩)] w4 fun e w' => e = .returned (.int .i64 s.self) ∧ w4 = w') := by have := self_any HV4.out; rw [HSf.out] at this; exact this
        have HES : Hid (Calls Try.prog 15 #[.pointer (some ⟨g, 0, none⟩), .int .i64 s.self] w4 fun e w' => e = .returned (.int .u64 (mx + 1)) ∧ w4 = w') := by have := epoch_any HV4.out (s.self : Int); rw [HSe.out] at this; exact this
        by_cases hm2 : m < 64
        · have hmi : (0 : Int) ≤ (m : Int) ∧ (m : Int) < 64 := by omega
          by_cases hms : m = s.self
          · have hmb : ((m : Int) != (s.self : Int)) = false := by simp; omega
            have hmb2 : ((s.self : Int) != (s.self : Int)) = false := by simp
            subst hms
            go_wp2_with fail
            refine HSelf.out.mono ?_
            rintro e w' ⟨rfl, rfl⟩
            go_wp2
            go_roundw
            case rel => exact ⟨s.self + 1, by omega, by go_num, trivial⟩
            case measure => simp [intOf]; omega
          · have hmb : ((m : Int) != (s.self : Int)) = true := by simp; omega
            have HEm : Hid (Calls Try.prog 15 #[.pointer (some ⟨g, 0, none⟩), .int .i64 m] w4 fun e w' => e = .returned (.int .u64 (s.ep m)) ∧ w4 = w') := by have := epoch_any HV4.out (m : Int); rw [HEp.out m hm2, if_neg hms] at this; exact this
            have hge : decide (mx + 1 ≤ s.ep m) = false := decide_eq_false (by have := (hepo.out m).2; omega)
            go_wp2_with fail
            refine HSelf.out.mono ?_
            rintro e w' ⟨rfl, rfl⟩
            go_wp2_with fail
            refine HEm.out.mono ?_
            rintro e w' ⟨rfl, rfl⟩
            go_wp2_with fail
            refine HSelf.out.mono ?_
            rintro e w' ⟨rfl, rfl⟩
            go_wp2_with fail
            refine HES.out.mono ?_
            rintro e w' ⟨rfl, rfl⟩
            go_wp2
            go_roundw
            case rel => exact ⟨m + 1, by omega, by go_num, trivial⟩
            case measure => simp [intOf]; omega
        · have hm3 : m = 64 := by omega
          subst hm3
          go_wp2_with fail
          refine (HAl.out _).mono ?_
          rintro e w5 ⟨rfl, hb5⟩
          have HV5 := Lib.hid (HV4.out.below hb5)
          have HB5 := Lib.hid (HB4.out.trans (hb5.mono HB4.out.size))
          clear hb5
          have HSelf5 : Hid (Calls Try.prog 27 #[.pointer (some ⟨g, 0, none⟩)] w5 fun e w' => e = .returned (.int .i64 s.self) ∧ w5 = w') := by have := self_any HV5.out; rw [HSf.out] at this; exact this
          have HES5 : Hid (Calls Try.prog 15 #[.pointer (some ⟨g, 0, none⟩), .int .i64 s.self] w5 fun e w' => e = .returned (.int .u64 (mx + 1)) ∧ w5 = w') := by have := epoch_any HV5.out (s.self : Int); rw [HSe.out] at this; exact this
          have HOw5 : Hid (Calls Try.prog 22 #[.pointer (some ⟨g, 0, none⟩), .int .i64 k] w5 fun e w' => e = .returned (.int .i64 s.self) ∧ w5 = w') := by have := owner_any HV5.out HOk2.out (k : Int); rw [HX.out] at this; exact this
          have HCu5 : Hid (Calls Try.prog 18 #[.pointer (some ⟨g, 0, none⟩)] w5 fun e w' => e = .returned (.int .u64 (mx + 1)) ∧ w5 = w') := by have := current_any HV5.out; rw [HCu.out] at this; exact this
          have hgt : decide (y < mx + 1) = true := decide_eq_true (by omega)
          go_wp2_with fail
          refine HOw5.out.mono ?_
          rintro e w' ⟨rfl, rfl⟩
          go_wp2_with fail
          refine HSelf5.out.mono ?_
          rintro e w' ⟨rfl, rfl⟩
          go_wp2_with fail
          refine HSelf5.out.mono ?_
          rintro e w' ⟨rfl, rfl⟩
          go_wp2_with fail
          refine HES5.out.mono ?_
          rintro e w' ⟨rfl, rfl⟩
          go_wp2_with fail
          refine HSelf5.out.mono ?_
          rintro e w' ⟨rfl, rfl⟩
          go_wp2_with fail
          refine HES5.out.mono ?_
          rintro e w' ⟨rfl, rfl⟩
          go_wp2_with fail
          refine HCu5.out.mono ?_
          rintro e w' ⟨rfl, rfl⟩
          go_wp2
          go_ret
          exact ⟨rfl, HB5.out⟩
    · have hE : winE x y = 1 := by unfold winE; rw [if_neg hc]
      have hD : s.winD x y = s := by unfold VS.winD; rw [if_neg hc]
      rw [hE, hD] at HWn
      have hcs : x < 0 ∨ 16384 ≤ x ∨ 4611686018427387904 < y := by
        by_cases h1 : x < 0
        · exact .inl h1
        · by_cases h2 : 16384 ≤ x
          · exact .inr (.inl h2)
          · refine .inr (.inr ?_)
            have h3 : inSlot x = true := decide_eq_true (by omega)
            rcases Int.lt_or_le 4611686018427387904 y with h | h
            · exact h
            · exact absurd ⟨h3, h⟩ hc
      have HCs := Lib.hid hcs
      clear hc hE hD hcs HOk2
      go_wp2_with fail
      refine HWn.out.mono ?_
      rintro e w4 ⟨rfl, hv4, ho4⟩
      have HB4 : Hid (Below w.heap.size w w4) := ho4.new HS.out.bel HGw.out HS.out.bel.size
      clear hv4 ho4 HWn
      go_wp2_with fail
      refine (HAl.out _).mono ?_
      rintro e w5 ⟨rfl, hb5⟩
      have HB5 := Lib.hid (HB4.out.trans (hb5.mono HB4.out.size))
      clear hb5
      by_cases h1 : x < 0
      · go_wp2
        go_ret
        exact ⟨rfl, HB5.out⟩
      · have h1d : decide (x < 0) = false := decide_eq_false h1
        by_cases h2 : 16384 ≤ x
        · clear h1
          go_wp2
          go_ret
          exact ⟨rfl, HB5.out⟩
        · have h2d : decide (16384 ≤ x) = false := decide_eq_false h2
          have h3 : 4611686018427387904 < y := by have := HCs.out; omega
          clear h1 h2
          go_wp2
          go_ret
          exact ⟨rfl, HB5.out⟩
end Go.Proofs.Ytlccbgjlinlioaa
