/- ViewApart: the walk of the law. -/
import Derived.Test.YtlccbgjlinlioaaAll
namespace Go.Proofs.Ytlccbgjlinlioaa
open Go.RowKit

/-- a view's block holds no nodes -/
theorem RN.neView {u : World} {B gr cap g : Nat} {N : NS} {s : VS} (h : RN u B gr cap N) (hv : ViewAt u g s) : gr ≠ g := by
  intro e
  subst e
  obtain ⟨cs, h1, _⟩ := hv
  rcases h.2 with ⟨hn, _⟩ | ⟨g', cap', cur, e, _, hh, _⟩
  · cases hn
  · have e2 : g' = gr := by
      simp only [Value.slice.injEq, Option.some.injEq, Addr.mk.injEq] at e
      exact e.1.1.symm
    subst e2
    rw [hh] at h1
    simp at h1

/-- where the law stands: the view and its document; the clone and its own -/
structure ApS (w : World) (g B gr cap r : Nat) (s0 : VS) (gc gq capq rq me : Nat) (cur : Int) (s : VS) (u : World) : Prop where
  law : LawS w g B gr cap r s0 u
  clone : ViewAt u gc s
  nodes : RN u B gq capq (NS.of s)
  box : Box u rq (.int .i64 (me : Int)) (.slice (some ⟨gq, 0, none⟩) 64 capq) (.int .u64 cur)
theorem ApS.belowW {w : World} {g B gr cap r : Nat} {s0 : VS} {gc gq capq rq me : Nat} {cur : Int} {s : VS} {u u' : World} (h : ApS w g B gr cap r s0 gc gq capq rq me cur s u) (hb : Below u.heap.size u u') : ApS w g B gr cap r s0 gc gq capq rq me cur s u' :=
  ⟨h.law.belowW hb, h.clone.below hb, h.nodes.below hb, h.box.below hb h.box.lt⟩
theorem LawS.only {w : World} {g B gr cap r b : Nat} {s : VS} {u u' : World} (h : LawS w g B gr cap r s u) (ho : Only u u' b) (hw : w.heap.size ≤ b) (h1 : g ≠ b) (h2 : gr ≠ b) (h3 : r ≠ b) : LawS w g B gr cap r s u' :=
  ⟨h.view.only ho h1, h.rn.only ho h2, h.box.only ho h3, ho.new h.bel hw h.bel.size⟩

set_option maxRecDepth 100000 in
set_option maxHeartbeats 3200000 in
theorem apart_walk {w : World} {q : BG} (hq : q.Ok) {v : Value} {os : List OPV} (hos : OpsIn w v os) {v2 : Value} {ms : List OPV} (hms : OpsIn w v2 ms) :
    Calls Try.prog 4 #[q.val, v, v2] w fun e w' => e = .returned (.bool true) ∧ Below w.heap.size w w' := by
  have hb0 : (w.alloc (.cells q.cells.toArray 26)).heap[w.heap.size]? = some (.cells q.cells.toArray 26 (0, 0)) := heap_alloc_new w _
  have hbel : Below w.heap.size w (w.alloc (.cells q.cells.toArray 26)) := (Below.refl _ _).alloc (Nat.le_refl _) _
  have HBg := Lib.hid fun (u : World) (hu : OpsIn u v os) => begun_any hq hu
  have HOs := Lib.hid (hos.belowN hbel)
  have HS26 : Hid ((Try.prog.info? 26).map (·.size) = some q.cells.toArray.size) := by rw [List.size_toArray, BG.cells_len]; exact size26
  have HAl := Lib.hid alive_any
  unfold BG.val at *
  generalize q.cells.toArray = QC at *
  generalize hw1 : w.alloc (.cells QC 26) = w1 at *
  have HW1 := Lib.hid hw1
  have HB0 := Lib.hid hb0
  have HBel := Lib.hid hbel
  have HMs := Lib.hid (hms.belowN hbel)
  clear hw1 hb0 hbel hos hq hms
  go_enter Try.func4, Try.ntmps4
  go_upto_region 1 with fail
  rw [HW1.out]
  go_wp2_with (with_reducible refine wpList_load_row rfl 26 (.tmp 3) rfl w.heap.size rfl 26 QC (0, 0) _ HB0.out Try.underlying26 rfl HS26.out ?_)
  refine (HBg.out _ HOs.out).mono ?_
  rintro e w2 ⟨hb2, ⟨me, ao, n2, cap, cur, rfl⟩ | ⟨g, gr, cap, B, s, rfl, hv, hgl, hgB, hrn, hok⟩⟩
  · have HB2 := Lib.hid (laws_nil HBel.out hb2)
    clear hb2
    go_wp2_with fail
    refine (HAl.out _).mono ?_
    rintro e w3 ⟨rfl, hb3⟩
    have HB3 := Lib.hid ((HB2.out _).trans (hb3.mono (HB2.out _).size))
    clear hb3
    go_wp2
    go_ret
    exact ⟨rfl, HB3.out⟩
  · have HS := Lib.hid (laws_start (Below.refl w1.heap.size w1) hb2 hv hrn)
    have HOk := Lib.hid hok
    unfold refVal
    clear hb2 hv hrn hok
    go_upto_region 2 with fail
    generalize w2.alloc (.cells #[.int .i64 (s.self : Int), .slice (some ⟨gr, 0, none⟩) 64 cap, .int .u64 s.cur] 33) = w3 at *
    generalize w2.heap.size = r at *
    have HMs3 := Lib.hid (HMs.out.belowN HS.out.bel)
    go_wp2_with fail
    refine (few_any HMs3.out).mono ?_
    rintro e w4 ⟨b, rfl, hfew, hb4⟩
    have HS4 := Lib.hid (HS.out.belowW hb4)
    clear hb4 HS HMs3 HBg HOs
    cases b with
    | false =>
      go_wp2_with fail
      refine (HAl.out _).mono ?_
      rintro e w5 ⟨rfl, hb5⟩
      have HB5 := Lib.hid (HBel.out.trans ((HS4.out.belowW hb5).bel.mono HBel.out.size))
      clear hb5
      go_wp2
      go_ret
      exact ⟨rfl, HB5.out⟩
    | true =>
      have HLen := Lib.hid (hfew rfl)
      clear hfew
      go_wp2_with fail
      refine (clone_any HS4.out.view).mono ?_
      rintro e w5 ⟨rfl, hvc, hb5, hsz5⟩
      have HS5 := Lib.hid (HS4.out.belowW hb5)
      have HGl : Hid (w1.heap.size ≤ w4.heap.size ∧ g < w4.heap.size ∧ gr < w4.heap.size ∧ r < w4.heap.size ∧ w4.heap.size < w5.heap.size) := ⟨HS4.out.bel.size, HS4.out.view.lt, HS4.out.rn.lt.2, HS4.out.box.lt, hsz5⟩
      have HV5 := Lib.hid hvc
      generalize w4.heap.size = gc at *
      clear hvc hb5 hsz5 HS4
      have a0 := HS5.out.box.cell0
      have a1 := HS5.out.box.cell1
      have a2 := HS5.out.box.cell2
      go_upto_region 8 with fail
      have hbA : Below w5.heap.size w5 (w5.alloc (.cells #[.int .i64 (s.self : Int), .slice (some ⟨gr, 0, none⟩) 64 cap, .int .u64 s.cur] 33)) := (Below.refl _ _).alloc (Nat.le_refl _) _
      have HA6 : Hid (ApS w1 g B gr cap r s gc gr cap w5.heap.size s.self s.cur s (w5.alloc (.cells #[.int .i64 (s.self : Int), .slice (some ⟨gr, 0, none⟩) 64 cap, .int .u64 s.cur] 33))) := ⟨HS5.out.belowW hbA, HV5.out.below hbA, HS5.out.rn.below hbA, box1 w5 _ _ _⟩
      generalize w5.alloc (.cells #[.int .i64 (s.self : Int), .slice (some ⟨gr, 0, none⟩) 64 cap, .int .u64 s.cur] 33) = w6 at *
      have HGr : Hid (gc < w5.heap.size) := HGl.out.2.2.2.2
      generalize w5.heap.size = rq at *
      clear a0 a1 a2 hbA HS5 HV5
      obtain ⟨ao, capm, rfl, hoks, hlen, hcells⟩ := HMs.out
      have HOks := Lib.hid hoks
      have HCells := Lib.hid hcells
      have hl0 : (0 : Int) ≤ ms.length := by omega
      have hl40 : ms.length ≤ 40 := HLen.out
      have hli : (ms.length : Int) ≤ 40 := by omega
      have HZ := zero38
      have hzs := zeroOp_size
      have hzne : ¬ zeroOp = #[] := by
        intro e
        rw [e] at hzs
        simp at hzs
      generalize zeroOp = Z at *
      have HOk0 : Hid (s.Ok (4611686018427387904 + 40 + ((0 : Nat) : Int))) := Lib.hid (HOk.out.up (by omega))
      clear hoks hcells
      go_wp2_with fail
      go_loopw [48] (fun i wx => ∃ (k : Nat) (t : VS) (gq capq : Nat), k ≤ ms.length ∧ i = .int .i64 k ∧ ApS w1 g B gr cap r s gc gq capq rq t.self t.cur t wx ∧ t.Ok (4611686018427387904 + 40 + k)) (fun i _ => ms.length - (intOf i).toNat)
      case atStart => exact ⟨0, s, gr, cap, Nat.zero_le _, rfl, HA6.out, HOk0.out⟩
      case round =>
        obtain ⟨k, t, gq, capq, hk, rfl, hs, hok⟩ := hrel
        have HA := Lib.hid hs
        have HOkt := Lib.hid hok
        clear hs hok HA6 HOk0
        by_cases hlt : k < ms.length
        · obtain ⟨b, off, rfl, hbW, hrows⟩ := HCells.out (by omega)
          obtain ⟨o, ho⟩ : ∃ o, ms[k]? = some o := ⟨_, List.getElem?_eq_getElem hlt⟩
          have HRow : Hid (wr.rangeAt b (off + k * 265) o.cells) := by
            intro j u hu
            rw [HA.out.law.bel.cell (p := ⟨b, off + k * 265 + j, none⟩) hbW]
            exact hrows k o ho j u hu
          have hoOk := HOks.out o (List.mem_of_getElem? ho)
          have HS38 : Hid ((Try.prog.info? 38).map (·.size) = some o.cells.length) := by rw [OPV.cells_len]; exact size38
          have HS38b : Hid ((Try.prog.info? 38).map (·.size) = some o.cells.toArray.size) := by rw [List.size_toArray]; exact HS38.out
          have HZS : Hid (Z.size = o.cells.toArray.size) := by rw [hzs, List.size_toArray, OPV.cells_len]; exact rfl
          have H1 := Lib.hid o.oneCell
          have hki : (0 : Int) ≤ (k : Int) ∧ (k : Int) < ms.length := by omega
          have HD := Lib.hid fun (u : World) (hu : ViewAt u gc t) => does_any hu HOkt.out (by omega) (by omega) hoOk
          have HRD := Lib.hid fun (u : World) (hu : RN u B gq capq (NS.of t)) => rdo_any hu HOkt.out (by omega) (by omega) hoOk
          have HOk2 := Lib.hid (HOkt.out.doesD (by omega) hoOk)
          have HLl := Lib.hid (doesL_len t o)
          have HSelf2 := Lib.hid (doesD_self t o)
          unfold OPV.val at HD HRD
          unfold refVal at HRD
          clear hrows ho hoOk
          go_upto_region 11 with (first
            | (with_reducible refine wpList_load_mid rfl 38 (.tmp 50) rfl b (off + k * 265) rfl o.cells _ HRow.out Try.underlying38 rfl HS38.out ?_)
            | (with_reducible refine wpList_store_row rfl 38 (.tmp 13) (.tmp 51) rfl wr.heap.size o.cells.toArray rfl rfl 38 Z (heap_alloc_new wr _) HS38b.out HZS.out H1.out ?_))
          have hblk := setRow_heap (wr.alloc (.cells Z 38)) wr.heap.size Z o.cells.toArray 38 (0, 0) (heap_alloc_new wr _)
          have hbu : Below wr.heap.size wr ((wr.alloc (.cells Z 38)).setRow wr.heap.size o.cells.toArray) := below_setRow ((Below.refl _ _).alloc (Nat.le_refl _) _) (Nat.le_refl _) _
          have hus : ((wr.alloc (.cells Z 38)).setRow wr.heap.size o.cells.toArray).heap.size = wr.heap.size + 1 := by simp
          have HAu := Lib.hid (HA.out.belowW hbu)
          have HGo : Hid (gc < wr.heap.size ∧ rq < wr.heap.size) := ⟨HA.out.clone.lt, HA.out.box.lt⟩
          generalize (wr.alloc (.cells Z 38)).setRow wr.heap.size o.cells.toArray = u1 at *
          have HBlk := Lib.hid hblk
          generalize wr.heap.size = ro at *
          clear hblk hbu HRow
          have a0 := HAu.out.box.cell0
          have a1 := HAu.out.box.cell1
          have a2 := HAu.out.box.cell2
          go_wp2_with (with_reducible refine wpList_load_row rfl 38 (.tmp 13) rfl ro rfl 38 o.cells.toArray (0, 0) _ HBlk.out Try.underlying38 rfl HS38b.out ?_)
          refine (HRD.out _ HAu.out.nodes).mono ?_
          rintro e w7 ⟨gr2, cap7, v7, rfl, hrow7, hr7, hb7⟩
          have HA7 := Lib.hid (HAu.out.belowW hb7)
          have HR7 := Lib.hid hr7
          have HRow7 := Lib.hid hrow7
          have HBlk7 : Hid (w7.heap[ro]? = some (.cells o.cells.toArray 38 (0, 0))) := (hb7.block _ (by rw [hus]; omega)).trans HBlk.out
          have h7s : ro < w7.heap.size := by have := hb7.size; omega
          clear a0 a1 a2 hrow7 hr7 hb7 HRD
          obtain ⟨t', ht'⟩ : ∃ t', t' = t.doesD o := ⟨_, rfl⟩
          rw [← ht'] at HR7 HOk2 HSelf2 ⊢
          have HT' := Lib.hid ht'
          clear ht'
          go_upto_region 12 with fail
          have hbA : Below w7.heap.size w7 (w7.alloc (.cells #[.int .i64 (t.self : Int), .slice (some ⟨gr2, 0, none⟩) 64 cap7, .int .u64 t'.cur] 33)) := (Below.refl _ _).alloc (Nat.le_refl _) _
          have hb13 : Box (w7.alloc (.cells #[.int .i64 (t.self : Int), .slice (some ⟨gr2, 0, none⟩) 64 cap7, .int .u64 t'.cur] 33)) w7.heap.size _ _ _ := box1 w7 _ _ _
          have HA8 := Lib.hid (HA7.out.belowW hbA)
          have HR8 := Lib.hid (HR7.out.below hbA)
          have HRow8 := Lib.hid (HRow7.out.below hbA)
          have HBlk8 : Hid ((w7.alloc (.cells #[.int .i64 (t.self : Int), .slice (some ⟨gr2, 0, none⟩) 64 cap7, .int .u64 t'.cur] 33)).heap[ro]? = some (.cells o.cells.toArray 38 (0, 0))) := (hbA.block _ h7s).trans HBlk7.out
          generalize hw8 : w7.alloc (.cells #[.int .i64 (t.self : Int), .slice (some ⟨gr2, 0, none⟩) 64 cap7, .int .u64 t'.cur] 33) = w8 at *
          have c0 := hb13.cell0
          have c1 := hb13.cell1
          have c2 := hb13.cell2
          have a0 := HA8.out.box.cell0
          have a1 := HA8.out.box.cell1
          have a2 := HA8.out.box.cell2
          have za0 := HA8.out.box.free 0
          have za1 := HA8.out.box.free 1
          have za2 := HA8.out.box.free 2
          clear hbA hw8 hb13
          go_upto_region 13 with fail
          have ho9 := Box.onlySet w8 rq (.int .i64 (t.self : Int)) (.slice (some ⟨gr2, 0, none⟩) 64 cap7) (.int .u64 t'.cur)
          have HB9 := Lib.hid (HA8.out.box.set (.int .i64 (t.self : Int)) (.slice (some ⟨gr2, 0, none⟩) 64 cap7) (.int .u64 t'.cur))
          have HR9 := Lib.hid (HR8.out.only ho9 (HR8.out.neBox HA8.out.box))
          have HV9 := Lib.hid (HA8.out.clone.only ho9 (by have := HGr.out; omega))
          have HL9 := Lib.hid (HA8.out.law.only ho9 (by have := HGl.out; have := HGr.out; omega) (by have := HGl.out; have := HGr.out; omega) (by have := HGl.out; have := HGr.out; omega) (by have := HGl.out; have := HGr.out; omega))
          have HRow9 := Lib.hid (HRow8.out.only ho9 (by have := HGo.out.2; omega))
          have HBlk9 : Hid ((((w8.setCell ⟨rq, 0, none⟩ (.int .i64 (t.self : Int))).setCell ⟨rq, 1, none⟩ (.slice (some ⟨gr2, 0, none⟩) 64 cap7)).setCell ⟨rq, 2, none⟩ (.int .u64 t'.cur)).heap[ro]? = some (.cells o.cells.toArray 38 (0, 0))) := (ho9.block ro (by
            have h := HBlk8.out
            rcases Nat.lt_or_ge ro w8.heap.size with h1 | h1
            · exact h1
            · rw [Array.getElem?_eq_none h1] at h; cases h) (by have := HGo.out.2; simp; omega)).trans HBlk8.out
          generalize ((w8.setCell ⟨rq, 0, none⟩ (.int .i64 (t.self : Int))).setCell ⟨rq, 1, none⟩ (.slice (some ⟨gr2, 0, none⟩) 64 cap7)).setCell ⟨rq, 2, none⟩ (.int .u64 t'.cur) = w9 at *
          clear ho9 a0 a1 a2 za0 za1 za2 c0 c1 c2 HRow8 HR8 HA8 HBlk8 HA7 HR7 HRow7 HBlk7 HAu HBlk
          go_wp2_with (with_reducible refine wpList_load_row rfl 38 (.tmp 13) rfl ro rfl 38 o.cells.toArray (0, 0) _ HBlk9.out Try.underlying38 rfl HS38b.out ?_)
          refine (HD.out _ HV9.out).mono ?_
          rintro e w10 ⟨v10, rfl, hrow10, hv10, ho10⟩
          rw [← HT'.out] at hv10
          have HRowA := Lib.hid ((HRow9.out.only ho10 (by have := HGo.out.1; omega)).mono (Nat.zero_le _))
          have HRowB := Lib.hid (hrow10.mono (Nat.zero_le _))
          have HA10 : Hid (ApS w1 g B gr cap r s gc gr2 cap7 rq t'.self t'.cur t' w10) := by
            rw [HSelf2.out]
            exact ⟨HL9.out.only ho10 (by have := HGl.out; omega) (by have := HGl.out; omega) (by have := HGl.out; omega) (by have := HGl.out; omega), hv10, HR9.out.only ho10 (HR9.out.neView HV9.out), HB9.out.only ho10 (by have := HGr.out; omega)⟩
          have HSm := Lib.hid (same_any HRowB.out HRowA.out HLl.out)
          generalize VS.doesE o = ee at *
          have hee : (ee != ee) = false := by simp
          clear hrow10 hv10 ho10
          go_wp2_with fail
          refine HSm.out.mono ?_
          rintro e w11 ⟨rfl, hb11⟩
          have HA11 := Lib.hid (HA10.out.belowW hb11)
          clear hb11
          go_wp2
          go_roundw
          case rel => exact ⟨k + 1, t', gr2, cap7, by omega, by go_num, HA11.out, by have := HOk2.out; rw [show (4611686018427387904 : Int) + 40 + ((k + 1 : Nat) : Int) = 4611686018427387904 + 40 + k + 1 by omega]; exact this⟩
          case measure => simp [intOf]; omega
        · have hk2 : k = ms.length := by omega
          subst hk2
          go_wp2_with fail
          refine (HAl.out _).mono ?_
          rintro e w7 ⟨rfl, hb7⟩
          have HA7 := Lib.hid (HA.out.belowW hb7)
          clear hb7
          have a0 := HA7.out.law.box.cell0
          have a1 := HA7.out.law.box.cell1
          have a2 := HA7.out.law.box.cell2
          have HSt1 := Lib.hid (stands_any HA7.out.law.view HA7.out.law.rn HOk.out)
          unfold refVal at HSt1
          go_wp2_with fail
          refine HSt1.out.mono ?_
          rintro e w8 ⟨rfl, hb8⟩
          have HA8 := Lib.hid (HA7.out.belowW hb8)
          clear hb8 a0 a1 a2
          have a0 := HA8.out.box.cell0
          have a1 := HA8.out.box.cell1
          have a2 := HA8.out.box.cell2
          have HSt2 := Lib.hid (stands_any HA8.out.clone HA8.out.nodes HOkt.out)
          unfold refVal at HSt2
          go_wp2_with fail
          refine HSt2.out.mono ?_
          rintro e w9 ⟨rfl, hb9⟩
          have HB9 := Lib.hid (HBel.out.trans ((HA8.out.belowW hb9).law.bel.mono HBel.out.size))
          clear hb9
          go_wp2
          go_ret
          exact ⟨rfl, HB9.out⟩
end Go.Proofs.Ytlccbgjlinlioaa
