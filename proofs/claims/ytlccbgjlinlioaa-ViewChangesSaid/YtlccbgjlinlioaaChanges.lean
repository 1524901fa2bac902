/- ViewChanges: the walk of the law. -/
import Derived.Test.YtlccbgjlinlioaaOne
import Derived.Test.YtlccbgjlinlioaaPlain2
import Derived.Test.YtlccbgjlinlioaaHas
namespace Go.Proofs.Ytlccbgjlinlioaa
open Go.RowKit

/-- where the law stands: the view behind the packet, the document's view ahead of it, the packet -/
structure ChS (w : World) (g B gr cap r b : Nat) (s t : VS) (p : PK) (u : World) : Prop where
  view : ViewAt u g t
  rn : RN u B gr cap (NS.of s)
  box : Box u r (.int .i64 (s.self : Int)) (.slice (some ⟨gr, 0, none⟩) 64 cap) (.int .u64 s.cur)
  pkt : PktAt u b p
  lt : b < w.heap.size
  bel : Below w.heap.size w u
theorem ChS.belowW {w : World} {g B gr cap r b : Nat} {s t : VS} {p : PK} {u u' : World} (h : ChS w g B gr cap r b s t p u) (hb : Below u.heap.size u u') : ChS w g B gr cap r b s t p u' :=
  ⟨h.view.below hb, h.rn.below hb, h.box.below hb h.box.lt, (hb.block _ (Nat.lt_of_lt_of_le h.lt h.bel.size)).trans h.pkt, h.lt, h.bel.trans (hb.mono h.bel.size)⟩
theorem ChS.drew {w : World} {g B gr cap r b : Nat} {s t : VS} {p : PK} {u : World} (h : ChS w g B gr cap r b s t p u) : ChS w g B gr cap r b s t p u.drew :=
  ⟨h.view.drew, h.rn.drew, h.box.drew, h.pkt, h.lt, below_drewN h.bel 1⟩
/-- .. with the slots of a node in hand -/
structure ChI (w : World) (g B gr cap r b : Nat) (s t : VS) (p : PK) (Z : Nat) (v : Value) (l : List Nat) (u : World) : Prop where
  ch : ChS w g B gr cap r b s t p u
  row : IntsAt u Z v l
theorem ChI.belowW {w : World} {g B gr cap r b : Nat} {s t : VS} {p : PK} {Z : Nat} {v : Value} {l : List Nat} {u u' : World} (h : ChI w g B gr cap r b s t p Z v l u) (hb : Below u.heap.size u u') : ChI w g B gr cap r b s t p Z v l u' :=
  ⟨h.ch.belowW hb, h.row.below hb⟩
theorem ChI.drew {w : World} {g B gr cap r b : Nat} {s t : VS} {p : PK} {Z : Nat} {v : Value} {l : List Nat} {u : World} (h : ChI w g B gr cap r b s t p Z v l u) : ChI w g B gr cap r b s t p Z v l u.drew :=
  ⟨h.ch.drew, h.row⟩
theorem owner_at (t : VS) (k : Nat) (hk : k < 16384) : t.owner k = t.own k := by
  have h : inSlot k = true := decide_eq_true (by omega)
  unfold VS.owner
  rw [if_pos h, Int.toNat_natCast]
theorem epoch_of (t : VS) (o : Int) (h0 : 0 ≤ o) (h1 : o < 64) : t.epoch o = t.ep o.toNat := by
  have h : inNode o = true := decide_eq_true (by omega)
  unfold VS.epoch
  rw [if_pos h]

set_option maxRecDepth 100000 in
set_option maxHeartbeats 6400000 in
theorem changes_walk {w : World} {q : BG} (hq : q.Ok) {v : Value} {os : List OPV} (hos : OpsIn w v os) {p : PK} (hp : p.Ok) :
    Calls Try.prog 6 #[q.val, v, p.val] w fun e w' => e = .returned (.bool true) ∧ Below w.heap.size w w' := by
  have hbel : Below w.heap.size w ((w.alloc (.cells q.cells.toArray 26)).alloc (.cells p.cells.toArray 29)) := below2 _ _ _
  have hb0 : ((w.alloc (.cells q.cells.toArray 26)).alloc (.cells p.cells.toArray 29)).heap[w.heap.size]? = some (.cells q.cells.toArray 26 (0, 0)) := by
    rw [Below.heap_alloc _ _ _ (by simp)]
    exact heap_alloc_new w _
  have hb1 : ((w.alloc (.cells q.cells.toArray 26)).alloc (.cells p.cells.toArray 29)).heap[w.heap.size + 1]? = some (.cells p.cells.toArray 29 (0, 0)) := by
    have := heap_alloc_new (w.alloc (.cells q.cells.toArray 26)) (.cells p.cells.toArray 29)
    simpa using this
  have hsz : ((w.alloc (.cells q.cells.toArray 26)).alloc (.cells p.cells.toArray 29)).heap.size = w.heap.size + 2 := by simp
  have HBg := Lib.hid fun (u : World) (hu : OpsIn u v os) => begun_any hq hu
  have HOs := Lib.hid (hos.belowN hbel)
  have HS26 : Hid ((Try.prog.info? 26).map (·.size) = some q.cells.toArray.size) := by rw [List.size_toArray, BG.cells_len]; exact size26
  have HS29 : Hid ((Try.prog.info? 29).map (·.size) = some p.cells.toArray.size) := by rw [List.size_toArray, PK.cells_len]; exact size29
  have HAl := Lib.hid alive_any
  have HBd := Lib.hid (build38 p)
  have HBs := Lib.hid fun (u : World) => run_buildSlice27 (OPV.one p) u
  have HOne := Lib.hid fun (u : World) => few_any (one_in u p hp)
  have HPOk := Lib.hid hp
  unfold BG.val PK.val at *
  generalize hw1 : (w.alloc (.cells q.cells.toArray 26)).alloc (.cells p.cells.toArray 29) = w1 at *
  have HW1 := Lib.hid hw1
  have HB0 := Lib.hid hb0
  have HBel := Lib.hid hbel
  have HTk := Lib.hid fun (u : World) (b : Nat) (s : VS) (hu : ViewAt u b s) (hok : s.Ok (4611686018427387904 + 40)) => take_any hu hok (by omega) (by omega) hp
  have HPk : Hid (∀ u, Below w1.heap.size w1 u → PktAt u (w.heap.size + 1) p) := fun u hu => (hu.block _ (by omega)).trans hb1
  have HLt : Hid (w.heap.size + 1 < w1.heap.size) := by show w.heap.size + 1 < w1.heap.size; omega
  have HPr : Hid (∀ u, PktAt u (w.heap.size + 1) p → u.heap[w.heap.size + 1]? = some (.cells p.cells.toArray 29 (0, 0))) := fun u hu => hu
  unfold PK.val at HTk
  generalize q.cells.toArray = QC at *
  generalize p.cells.toArray = PC at *
  generalize (OPV.one p).cells.toArray = F at *
  clear hw1 hb0 hb1 hbel hos hq hp
  go_enter Try.func6, Try.ntmps6
  go_upto_region 1 with fail
  rw [HW1.out]
  go_wp2_with (with_reducible refine wpList_load_row rfl 26 (.tmp 3) rfl w.heap.size rfl 26 QC (0, 0) _ HB0.out Try.underlying26 rfl HS26.out ?_)
  refine (HBg.out _ HOs.out).mono ?_
  rintro e w2 ⟨hb2, ⟨me, ao, n2, cap, cur, rfl⟩ | ⟨g, gr, cap, B, s, rfl, hv, hgl, hgB, hrn, hok⟩⟩
  · have HB2 := Lib.hid (laws_nil HBel.out hb2)
    clear hb2
    go_wp2_with fail
    refine (HAl.out _).mono ?_
    rintro e w3 ⟨rfl, hb3⟩
    have HB3 := Lib.hid ((HB2.out _).trans (hb3.mono (HB2.out _).size))
    clear hb3
    go_wp2
    go_ret
    exact ⟨rfl, HB3.out⟩
  · have HS := Lib.hid (laws_start (Below.refl w1.heap.size w1) hb2 hv hrn)
    have HOk := Lib.hid hok
    have HGw := Lib.hid hgl
    have HGn : Hid (g ≠ gr ∧ g < w2.heap.size) := ⟨by have := hrn.lt; omega, hv.lt⟩
    unfold refVal
    clear hb2 hv hrn hok hgl hgB
    go_upto_region 2 with fail
    generalize w2.alloc (.cells #[.int .i64 (s.self : Int), .slice (some ⟨gr, 0, none⟩) 64 cap, .int .u64 s.cur] 33) = w3 at *
    generalize w2.heap.size = r at *
    have HPk3 := Lib.hid (HPr.out _ (HPk.out _ HS.out.bel))
    go_wp2_with (first
      | (refine wpList_exec rfl _ (exec_load_row 29 (.tmp 5) rfl (w.heap.size + 1) rfl 29 PC (0, 0) _ HPk3.out Try.underlying29 rfl HS29.out) ?_; simp only [Act.put, List.setIfInBounds_toArray, List.set_cons_succ, List.set_cons_zero])
      | (refine wpList_exec rfl _ (exec_build 38 #[(4, .tmp 29)] rfl [(4, .agg PC)] (by simp [Act.eval]) F HBd.out) ?_; simp only [Act.put, List.setIfInBounds_toArray, List.set_cons_succ, List.set_cons_zero])
      | (refine wpList_buildSlice27 rfl (.tmp 30) rfl F rfl HBs.out ?_; simp only [Act.put, List.setIfInBounds_toArray, List.set_cons_succ, List.set_cons_zero]))
    refine (HOne.out _).mono ?_
    rintro e w4 ⟨b4, rfl, _, hb4⟩
    have hA : Below w3.heap.size w3 (w3.alloc (.cells F 38)) := (Below.refl _ _).alloc (Nat.le_refl _) _
    have HS4 := Lib.hid ((HS.out.belowW hA).belowW hb4)
    clear hb4 hA HS HPk3 HOne HBd HBs HBg HOs
    cases b4 with
    | false =>
      go_wp2_with fail
      refine (HAl.out _).mono ?_
      rintro e w5 ⟨rfl, hb5⟩
      have HB5 := Lib.hid (HBel.out.trans ((HS4.out.belowW hb5).bel.mono HBel.out.size))
      clear hb5
      go_wp2
      go_ret
      exact ⟨rfl, HB5.out⟩
    | true =>
      have HPk4 := Lib.hid (HPr.out _ (HPk.out _ HS4.out.bel))
      have HOk2 := Lib.hid (HOk.out.takeD (by omega) HPOk.out)
      go_wp2_with (with_reducible refine wpList_load_row rfl 29 (.tmp 5) rfl (w.heap.size + 1) rfl 29 PC (0, 0) _ HPk4.out Try.underlying29 rfl HS29.out ?_)
      refine (HTk.out _ _ _ HS4.out.view HOk.out).mono ?_
      rintro e w5 ⟨vl, rfl, _, hv5, ho5⟩
      have hB5 := ho5.new HS4.out.bel HGw.out HS4.out.bel.size
      have HC5 : Hid (ChS w1 g B gr cap r (w.heap.size + 1) s (s.takeD p) p w5) := ⟨hv5, HS4.out.rn.only ho5 (fun e => HGn.out.1 e.symm), HS4.out.box.only ho5 (by have := HGn.out.2; omega), HPk.out _ hB5, HLt.out, hB5⟩
      have HSlot := Lib.hid fun (m : Nat) (hm : m < 64) (k : Nat) (hk : k < 16384) (ho : s.own k = m) => takeD_slot s p m hm k hk ho
      generalize s.takeD p = t at *
      have a1 := HC5.out.box.cell1
      clear hv5 ho5 hB5 HS4 HTk HPk4 HPk HPr HGn HGw
      go_wp2_with fail
      go_loopw [45] (fun c wx => ∃ m : Nat, m ≤ 64 ∧ c = .int .i64 m ∧ Hid (ChS w1 g B gr cap r (w.heap.size + 1) s t p wx)) (fun c _ => 64 - (intOf c).toNat)
      case atStart => exact ⟨0, by omega, rfl, HC5⟩
      case round =>
        obtain ⟨m, hm, rfl, HCm⟩ := hrel
        clear a1
        by_cases hm2 : m < 64
        · have hmi : (0 : Int) ≤ (m : Int) ∧ (m : Int) < 64 := by omega
          have a1 := HCm.out.box.cell1
          have HRc : Hid (wr.rangeAt gr (m * 257 + 1) (wordsList (wordsOf (s.owns m)))) := HCm.out.rn.claims m hm2
          have HS24 : Hid ((Try.prog.info? 24).map (·.size) = some (wordsList (wordsOf (s.owns m))).length) := by rw [wordsList_len]; exact size24b
          have HAll := Lib.hid fun (u : World) => slots_any (wordsOf_lt (s.owns m)) u
          have hlen : (slotsTo (wordsOf (s.owns m)) 16384).length ≤ 16384 := by
            have := List.length_filter_le (hasBit (wordsOf (s.owns m))) (List.range 16384)
            simpa [slotsTo] using this
          have HMem : Hid (∀ (i k : Nat), (slotsTo (wordsOf (s.owns m)) 16384)[i]? = some k → k < 16384 ∧ s.own k = m) := fun i k hik => by
            have h1 := mem_slotsTo.1 (List.mem_of_getElem? hik)
            rw [wordsOf_has] at h1
            exact ⟨h1.1, owner_first s k m h1.2⟩
          unfold wordsArr at HAll
          generalize wordsList (wordsOf (s.owns m)) = WL at *
          generalize slotsTo (wordsOf (s.owns m)) 16384 = L at *
          go_wp2_with (with_reducible refine wpList_load_mid rfl 24 (.tmp 52) rfl gr (m * 257 + 1) rfl WL _ HRc.out Try.underlying24 rfl HS24.out ?_)
          refine (HAll.out _).mono ?_
          rintro e w6 ⟨vs, rfl, hi6, hb6⟩
          have HC6 := Lib.hid (HCm.out.belowW hb6)
          obtain ⟨sp, capv, rfl, hsp⟩ := own_form hi6
          have HSp := Lib.hid hsp
          have HI6 : Hid (ChI w1 g B gr cap r (w.heap.size + 1) s t p wr.heap.size (.slice sp L.length capv) L w6) := ⟨HC6.out, hi6⟩
          generalize wr.heap.size = Z at *
          obtain ⟨nl, hnl⟩ : ∃ n, n = L.length := ⟨_, rfl⟩
          rw [← hnl] at HI6 HSp ⊢
          have HNl := Lib.hid hnl
          have hnl0 : (0 : Int) ≤ (nl : Int) ∧ (nl : Int) ≤ 16384 := by omega
          clear a1 hi6 hb6 hsp HAll HRc HC6 hnl hlen
          go_wp2_with fail
          generalize wr = wo at *
          go_loopw [56] (fun c wx => ∃ i : Nat, i ≤ nl ∧ c = .int .i64 i ∧ Hid (ChI w1 g B gr cap r (w.heap.size + 1) s t p Z (.slice sp nl capv) L wx)) (fun c _ => nl - (intOf c).toNat)
          case atStart => exact ⟨0, by omega, rfl, HI6⟩
          case round =>
            obtain ⟨i, hi, rfl, HI⟩ := hrel
            by_cases hi2 : i < nl
            · obtain ⟨bl, rfl⟩ := HSp.out (by omega)
              have hii : (0 : Int) ≤ (i : Int) ∧ (i : Int) < nl := by omega
              obtain ⟨k, hk⟩ : ∃ k, L[i]? = some k := ⟨_, List.getElem?_eq_getElem (by rw [← HNl.out]; exact hi2)⟩
              have f0 := HI.out.row.cell i k hk
              obtain ⟨hk1, hk2⟩ := HMem.out i k hk
              have hcase := HSlot.out m hm2 k hk1 hk2
              have HO := owner_any HI.out.ch.view HOk2.out (k : Int)
              rw [owner_at t k hk1] at HO
              have d0 := HI.out.ch.pkt.kind
              have d1 := HI.out.ch.pkt.frm
              have d2 := HI.out.ch.pkt.of
              have HHas := fun (u : World) => has_any HPOk.out.lt k hk1 u
              have HS24p : Hid ((Try.prog.info? 24).map (·.size) = some (wordsList p.c).length) := by rw [wordsList_len]; exact size24b
              have HEpo := Lib.hid fun (o : Int) (h0 : 0 ≤ o) (h1 : o < 64) => epoch_of t o h0 h1
              have HTl3 : Hid (p.kind = 3 → p.tells = p.of) := fun h => by unfold PK.tells; rw [if_pos h]
              have HTl1 : Hid (¬ p.kind = 3 → p.tells = p.frm) := fun h => by unfold PK.tells; rw [if_neg h]
              obtain ⟨C, hC⟩ : ∃ C : World → Prop, C = fun u => ChI w1 g B gr cap r (w.heap.size + 1) s t p Z (.slice (some ⟨bl, 0, none⟩) nl capv) L u := ⟨_, rfl⟩
              have HCi : Hid (∀ u, C u → ChI w1 g B gr cap r (w.heap.size + 1) s t p Z (.slice (some ⟨bl, 0, none⟩) nl capv) L u) := fun u h => by rw [hC] at h; exact h
              have HCo : Hid (∀ u, ChI w1 g B gr cap r (w.heap.size + 1) s t p Z (.slice (some ⟨bl, 0, none⟩) nl capv) L u → C u) := fun u h => by rw [hC]; exact h
              have HC0 : Hid (C wr.drew) := HCo.out _ HI.out.drew
              have K1 : Hid (∀ u, C u → u.cell? ⟨r, 1, none⟩ = some (.slice (some ⟨gr, 0, none⟩) 64 cap)) := fun u hu => (HCi.out u hu).ch.box.cell1
              have KRe : Hid (∀ u, C u → u.cell? ⟨gr, m * 257, none⟩ = some (.int .u64 (s.ep m))) := fun u hu => (HCi.out u hu).ch.rn.ep m hm2
              have KW : Hid (∀ u, C u → u.rangeAt (w.heap.size + 1) 5 (wordsList p.c)) := fun u hu => (HCi.out u hu).ch.pkt.row
              have KH : Hid (∀ u, C u → Calls Try.prog 25 #[.agg (wordsArr p.c), .int .i64 (k : Int)] u fun e u' => e = .returned (.bool (hasBit p.c k)) ∧ C u') := fun u hu => class_call (HHas u) fun u' hb => HCo.out _ ((HCi.out _ hu).belowW hb)
              have KE : Hid (∀ o : Int, ∀ u, C u → Calls Try.prog 15 #[.pointer (some ⟨g, 0, none⟩), .int .i64 o] u fun e u' => e = .returned (.int .u64 (t.epoch o)) ∧ C u') := fun o u hu => class_same (epoch_any (HCi.out u hu).ch.view o) hu
              have hki : (0 : Int) ≤ (k : Int) ∧ (k : Int) < 16384 := by omega
              unfold wordsArr at KH
              generalize wordsList p.c = WP at *
              generalize hasBit p.c k = hb at *
              generalize t.own k = o at *
              generalize p.tells = tl at *
              generalize p.kind = kd at *
              generalize p.frm = fm at *
              generalize p.of = pf at *
              have HHO := Lib.hid HO
              have hm0 : decide ((m : Int) < 0) = false := decide_eq_false (by omega)
              have hm1 : decide (0 ≤ (m : Int)) = true := decide_eq_true (by omega)
              clear hC hk HO HHas hk1 hk2
              by_cases hk3 : kd = 3
              · have htl := HTl3.out hk3
                subst hk3
                rcases hcase with ho | ho | ho
                · subst ho
                  clear htl
                  go_wp2_with fail
                  refine HHO.out.mono ?_
                  rintro e w' ⟨rfl, rfl⟩
                  go_wp2_with fail
                  refine wp_region_class (C := C) (by kernel_rfl) (by kernel_rfl) HC0.out ?_
                  repeat (first
                    | go_big_quiet_skip
                    | (go_big_quiet_want; go_big_quiet_op; first
                        | go_big_quiet_on
                        | (refine ⟨_, fun _ _ => rfl, ?_⟩; go_big_quiet_on)))
                  refine wpQuiet_nil ?_
                  intro wz hwz
                  have HIz := Lib.hid (HCi.out _ hwz)
                  clear hwz
                  go_wp2
                  go_roundw
                  case rel => exact ⟨i + 1, by omega, by go_num, HIz⟩
                  case measure => simp [intOf]; omega
                · obtain ⟨rfl, ht, rfl⟩ := ho
                  subst htl
                  subst ht
                  go_wp2_with fail
                  refine HHO.out.mono ?_
                  rintro e w' ⟨rfl, rfl⟩
                  go_wp2_with fail
                  refine wp_region_class (C := C) (by kernel_rfl) (by kernel_rfl) HC0.out ?_
                  repeat (first
                    | go_big_quiet_skip
                    | (go_big_quiet_want; refine quiet_load_mid 24 (.tmp 77) rfl (w.heap.size + 1) 5 rfl WP _ KW.out Try.underlying24 rfl HS24p.out ?_; simp only [Act.put, List.setIfInBounds_toArray, List.set_cons_succ, List.set_cons_zero]; go_big_quiet_on)
                    | (go_big_quiet_want; go_big_quiet_op; first
                        | go_big_quiet_on
                        | (refine ⟨_, fun _ _ => rfl, ?_⟩; go_big_quiet_on)
                        | (refine ⟨_, KH.out, ?_⟩; go_big_quiet_on)))
                  refine wpQuiet_nil ?_
                  intro wz hwz
                  have HIz := Lib.hid (HCi.out _ hwz)
                  clear hwz
                  go_wp2
                  go_roundw
                  case rel => exact ⟨i + 1, by omega, by go_num, HIz⟩
                  case measure => simp [intOf]; omega
                · obtain ⟨ho0, ho1, ho2, ho3⟩ := ho
                  have hEo := HEpo.out o ho0 ho1
                  have KEo := Lib.hid (KE.out o)
                  rw [hEo] at KEo
                  have ho4 : decide (o < 0) = false := decide_eq_false (by omega)
                  have ho5 : decide (0 ≤ o) = true := decide_eq_true ho0
                  have ho6 : (o != (m : Int)) = true := by rw [bne_iff_ne]; exact ho2
                  have ho7 : decide (t.ep o.toNat ≤ s.ep m) = false := decide_eq_false (by omega)
                  generalize t.ep o.toNat = eo at *
                  generalize s.ep m = em at *
                  clear hEo ho0 ho1 ho2 ho3
                  clear htl
                  go_wp2_with fail
                  refine HHO.out.mono ?_
                  rintro e w' ⟨rfl, rfl⟩
                  go_wp2_with fail
                  refine wp_region_class (C := C) (by kernel_rfl) (by kernel_rfl) HC0.out ?_
                  repeat (first
                    | go_big_quiet_skip
                    | (go_big_quiet_want; refine quiet_load_cell 31 (.tmp 95) rfl _ rfl _ K1.out isAgg31 ?_; simp only [Act.put, List.setIfInBounds_toArray, List.set_cons_succ, List.set_cons_zero]; go_big_quiet_on)
                    | (go_big_quiet_want; refine quiet_load_cell 22 (.tmp 99) rfl _ rfl _ KRe.out isAgg22 ?_; simp only [Act.put, List.setIfInBounds_toArray, List.set_cons_succ, List.set_cons_zero]; go_big_quiet_on)
                    | (go_big_quiet_want; go_big_quiet_op; first
                        | go_big_quiet_on
                        | (refine ⟨_, fun _ _ => rfl, ?_⟩; go_big_quiet_on)
                        | (refine ⟨_, KEo.out, ?_⟩; go_big_quiet_on)))
                  refine wpQuiet_nil ?_
                  intro wz hwz
                  have HIz := Lib.hid (HCi.out _ hwz)
                  clear hwz
                  go_wp2
                  go_roundw
                  case rel => exact ⟨i + 1, by omega, by go_num, HIz⟩
                  case measure => simp [intOf]; omega
              · have htl := HTl1.out hk3
                have hkb : (kd == 3) = false := by rw [beq_eq_false_iff_ne]; exact hk3
                rcases hcase with ho | ho | ho
                · subst ho
                  clear htl
                  go_wp2_with fail
                  refine HHO.out.mono ?_
                  rintro e w' ⟨rfl, rfl⟩
                  go_wp2_with fail
                  refine wp_region_class (C := C) (by kernel_rfl) (by kernel_rfl) HC0.out ?_
                  repeat (first
                    | go_big_quiet_skip
                    | (go_big_quiet_want; go_big_quiet_op; first
                        | go_big_quiet_on
                        | (refine ⟨_, fun _ _ => rfl, ?_⟩; go_big_quiet_on)))
                  refine wpQuiet_nil ?_
                  intro wz hwz
                  have HIz := Lib.hid (HCi.out _ hwz)
                  clear hwz
                  go_wp2
                  go_roundw
                  case rel => exact ⟨i + 1, by omega, by go_num, HIz⟩
                  case measure => simp [intOf]; omega
                · obtain ⟨rfl, ht, rfl⟩ := ho
                  subst htl
                  subst ht
                  go_wp2_with fail
                  refine HHO.out.mono ?_
                  rintro e w' ⟨rfl, rfl⟩
                  go_wp2_with fail
                  refine wp_region_class (C := C) (by kernel_rfl) (by kernel_rfl) HC0.out ?_
                  repeat (first
                    | go_big_quiet_skip
                    | (go_big_quiet_want; refine quiet_load_mid 24 (.tmp 77) rfl (w.heap.size + 1) 5 rfl WP _ KW.out Try.underlying24 rfl HS24p.out ?_; simp only [Act.put, List.setIfInBounds_toArray, List.set_cons_succ, List.set_cons_zero]; go_big_quiet_on)
                    | (go_big_quiet_want; go_big_quiet_op; first
                        | go_big_quiet_on
                        | (refine ⟨_, fun _ _ => rfl, ?_⟩; go_big_quiet_on)
                        | (refine ⟨_, KH.out, ?_⟩; go_big_quiet_on)))
                  refine wpQuiet_nil ?_
                  intro wz hwz
                  have HIz := Lib.hid (HCi.out _ hwz)
                  clear hwz
                  go_wp2
                  go_roundw
                  case rel => exact ⟨i + 1, by omega, by go_num, HIz⟩
                  case measure => simp [intOf]; omega
                · obtain ⟨ho0, ho1, ho2, ho3⟩ := ho
                  have hEo := HEpo.out o ho0 ho1
                  have KEo := Lib.hid (KE.out o)
                  rw [hEo] at KEo
                  have ho4 : decide (o < 0) = false := decide_eq_false (by omega)
                  have ho5 : decide (0 ≤ o) = true := decide_eq_true ho0
                  have ho6 : (o != (m : Int)) = true := by rw [bne_iff_ne]; exact ho2
                  have ho7 : decide (t.ep o.toNat ≤ s.ep m) = false := decide_eq_false (by omega)
                  generalize t.ep o.toNat = eo at *
                  generalize s.ep m = em at *
                  clear hEo ho0 ho1 ho2 ho3
                  clear htl
                  go_wp2_with fail
                  refine HHO.out.mono ?_
                  rintro e w' ⟨rfl, rfl⟩
                  go_wp2_with fail
                  refine wp_region_class (C := C) (by kernel_rfl) (by kernel_rfl) HC0.out ?_
                  repeat (first
                    | go_big_quiet_skip
                    | (go_big_quiet_want; refine quiet_load_cell 31 (.tmp 95) rfl _ rfl _ K1.out isAgg31 ?_; simp only [Act.put, List.setIfInBounds_toArray, List.set_cons_succ, List.set_cons_zero]; go_big_quiet_on)
                    | (go_big_quiet_want; refine quiet_load_cell 22 (.tmp 99) rfl _ rfl _ KRe.out isAgg22 ?_; simp only [Act.put, List.setIfInBounds_toArray, List.set_cons_succ, List.set_cons_zero]; go_big_quiet_on)
                    | (go_big_quiet_want; go_big_quiet_op; first
                        | go_big_quiet_on
                        | (refine ⟨_, fun _ _ => rfl, ?_⟩; go_big_quiet_on)
                        | (refine ⟨_, KEo.out, ?_⟩; go_big_quiet_on)))
                  refine wpQuiet_nil ?_
                  intro wz hwz
                  have HIz := Lib.hid (HCi.out _ hwz)
                  clear hwz
                  go_wp2
                  go_roundw
                  case rel => exact ⟨i + 1, by omega, by go_num, HIz⟩
                  case measure => simp [intOf]; omega
            · have hi3 : i = nl := by omega
              subst hi3
              have HCe := Lib.hid HI.out.ch
              go_wp2
              go_roundw
              case rel => exact ⟨m + 1, by omega, by go_num, HCe⟩
              case measure => simp [intOf]; omega
        · have hm3 : m = 64 := by omega
          subst hm3
          go_wp2_with fail
          refine (HAl.out _).mono ?_
          rintro e w6 ⟨rfl, hb6⟩
          have HB6 := Lib.hid (HBel.out.trans ((HCm.out.belowW hb6).bel.mono HBel.out.size))
          clear hb6
          go_wp2
          go_ret
          exact ⟨rfl, HB6.out⟩
end Go.Proofs.Ytlccbgjlinlioaa
