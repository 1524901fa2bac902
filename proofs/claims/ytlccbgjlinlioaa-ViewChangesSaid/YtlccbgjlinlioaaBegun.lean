/- The walk of begun: the view and the document's, side by side. -/
import Derived.Test.YtlccbgjlinlioaaFew
namespace Go.Proofs.Ytlccbgjlinlioaa
open Go.RowKit

theorem OpsIn.belowN {w u : World} {v : Value} {os : List OPV} (h : OpsIn w v os) (hb : Below w.heap.size w u) : OpsIn u v os := by
  obtain ⟨ao, cap, h1, h2, h3, h4⟩ := h
  refine ⟨ao, cap, h1, h2, h3, fun hl => ?_⟩
  obtain ⟨b, off, e, hb2, hr⟩ := h4 hl
  refine ⟨b, off, e, Nat.lt_of_lt_of_le hb2 hb.size, fun i o ho j x hx => ?_⟩
  rw [hb.cell (p := ⟨b, off + i * 265 + j, none⟩) hb2]
  exact hr i o ho j x hx

theorem doesL_len (s : VS) (o : OPV) : (s.doesL o).length < 1000 := by
  have h1 : ∀ (t : VS) (p : PK), (t.pong p).length ≤ 1 := fun t p => by unfold VS.pong; split <;> simp
  have h2 : ∀ (t : VS) (p : PK), (t.upd p).length ≤ 1 := fun t p => by unfold VS.upd; split <;> simp
  unfold VS.doesL
  split
  · unfold VS.takeL
    split
    · simp
    · split
      · simp
      · rw [List.length_append]
        have := h1 ((s.took o.p o.p.who).raised o.p o.p.who) o.p
        have := h2 ((s.took o.p o.p.who).raised o.p o.p.who) o.p
        omega
  · simp

theorem results_begun {fn : Func} {p q r : Tmp} (hf : fn.results = #[.tmp q, .cell p 33, .tmp r]) {w : World} {g : Nat} {x y z : Value} (h : Box w g x y z) (tmps : Array Value) (hp : tmps.getD p undef = .pointer (some ⟨g, 0, none⟩)) :
    (results fn tmps).run Try.prog w = .ok (.tuple #[tmps.getD q undef, .agg #[x, y, z], tmps.getD r undef]) w := by
  have hl := h.load
  simp only [Array.getD_eq_getD_getElem?] at hp
  simp only [results, hf]
  simp [asAddr, hp, hl]

/-- where begun stands: the view in block g, the document's nodes in block gr from block Bn on, its box r9, the result's box r5 -/
structure BgS (w : World) (g Bn gr cap r9 r5 : Nat) (s : VS) (me : Nat) (cur : Int) (u : World) : Prop where
  view : ViewAt u g s
  rn : RN u Bn gr cap (NS.of s)
  box9 : Box u r9 (.int .i64 (me : Int)) (.slice (some ⟨gr, 0, none⟩) 64 cap) (.int .u64 cur)
  box5 : Box u r5 (.int .i64 0) (.slice none 0 0) (.int .u64 0)
  bel : Below w.heap.size w u
theorem BgS.belowW {w : World} {g Bn gr cap r9 r5 : Nat} {s : VS} {self : Nat} {cur : Int} {u u' : World} (h : BgS w g Bn gr cap r9 r5 s self cur u) (hb : Below u.heap.size u u') : BgS w g Bn gr cap r9 r5 s self cur u' :=
  ⟨h.view.below hb, h.rn.below hb, h.box9.below hb h.box9.lt, h.box5.below hb h.box5.lt, h.bel.trans (hb.mono h.bel.size)⟩

/-- what begun hands back -/
def BegunIs (w : World) (e : Ending) (w' : World) : Prop :=
  Below w.heap.size w w' ∧ ((∃ (self : Int) (ao : Option Addr) (n cap : Nat) (cur : Int), e = .returned (.tuple #[.pointer none, .agg #[.int .i64 self, .slice ao n cap, .int .u64 cur], .bool true])) ∨
    ∃ (g gr cap B : Nat) (s : VS), e = .returned (.tuple #[.pointer (some ⟨g, 0, none⟩), refVal s.self gr cap s.cur, .bool true]) ∧ ViewAt w' g s ∧ w.heap.size ≤ g ∧ g < B ∧ RN w' B gr cap (NS.of s) ∧ s.Ok (4611686018427387904 + 40))

set_option maxRecDepth 100000 in
set_option maxHeartbeats 1600000 in
theorem begun_no {w : World} {q : BG} {v : Value} (E : Int) (hE : (E == 0) = false)
    (hN : ∀ u, Calls Try.prog 28 #[.int .i64 q.self, .agg (wordsArr q.c), .int .u64 q.ep] u fun e' w' => e' = .returned (.tuple #[.pointer none, .int .i64 E]) ∧ Below u.heap.size u w')
    (hR : ∀ u, Calls Try.prog 29 #[.int .i64 q.self, .agg (wordsArr q.c), .int .u64 q.ep] u fun e' w' => e' = .returned (.tuple #[.agg #[.int .i64 0, .slice none 0 0, .int .u64 0], .int .i64 E]) ∧ Below u.heap.size u w') :
    Calls Try.prog 10 #[q.val, v] w fun e w' => BegunIs w e w' := by
  have hb2 : Below w.heap.size w ((w.alloc (.cells q.cells.toArray 26)).alloc (.cells #[.int .i64 0, .slice none 0 0, .int .u64 0] 33)) := below2 _ _ _
  have hby : Box ((w.alloc (.cells q.cells.toArray 26)).alloc (.cells #[.int .i64 0, .slice none 0 0, .int .u64 0] 33)) (w.heap.size + 1) (.int .i64 0) (.slice none 0 0) (.int .u64 0) := box2 _ _ _ _ _
  have hb0 : BgAt ((w.alloc (.cells q.cells.toArray 26)).alloc (.cells #[.int .i64 0, .slice none 0 0, .int .u64 0] 33)) w.heap.size q := by
    unfold BgAt
    rw [Below.heap_alloc _ _ _ (by simp)]
    exact heap_alloc_new w _
  unfold BG.val
  have d0 := hb0.self
  have d2 := hb0.ep
  have HW := Lib.hid hb0.words
  have HS24 : Hid ((Try.prog.info? 24).map (·.size) = some (wordsList q.c).length) := by rw [wordsList_len]; exact size24b
  have HWB : Hid (∀ u, Below ((w.alloc (.cells q.cells.toArray 26)).alloc (.cells #[.int .i64 0, .slice none 0 0, .int .u64 0] 33)).heap.size ((w.alloc (.cells q.cells.toArray 26)).alloc (.cells #[.int .i64 0, .slice none 0 0, .int .u64 0] 33)) u → BgAt u w.heap.size q) := fun u hu => (hu.block _ (by simp; omega)).trans hb0
  have HN := Lib.hid hN
  have HR := Lib.hid hR
  unfold wordsArr at HN HR
  generalize q.cells.toArray = QC at *
  generalize hw2 : (w.alloc (.cells QC 26)).alloc (.cells #[.int .i64 0, .slice none 0 0, .int .u64 0] 33) = w2 at *
  have HW2 := Lib.hid hw2
  have HBel := Lib.hid hb2
  have HBy := Lib.hid hby
  have hyl := hby.lt
  clear hw2 hb2 hby hb0 hN hR
  go_enter Try.func10, Try.ntmps10
  go_upto_region 1 with fail
  rw [HW2.out]
  go_wp2_with (with_reducible refine wpList_load_mid rfl 24 (.tmp 21) rfl w.heap.size 1 rfl (wordsList q.c) _ HW.out Try.underlying24 rfl HS24.out ?_)
  refine (HN.out _).mono ?_
  rintro e w3 ⟨rfl, hb3⟩
  have hq3 := HWB.out w3 hb3
  have e0 := hq3.self
  have e2 := hq3.ep
  have HW3 := Lib.hid hq3.words
  have HB3 := Lib.hid (HBel.out.trans (hb3.mono HBel.out.size))
  have HBy3 := Lib.hid (HBy.out.below hb3 hyl)
  clear hb3 hq3
  go_wp2_with (with_reducible refine wpList_load_mid rfl 24 (.tmp 31) rfl w.heap.size 1 rfl (wordsList q.c) _ HW3.out Try.underlying24 rfl HS24.out ?_)
  refine (HR.out _).mono ?_
  rintro e w4 ⟨rfl, hb4⟩
  have HB4 := Lib.hid (HB3.out.trans (hb4.mono HB3.out.size))
  have HBy4 := Lib.hid (HBy3.out.below hb4 HBy3.out.lt)
  clear hb4
  have hEE : (E != E) = false := by simp
  go_upto_region 3 with fail
  have hbA : Below w4.heap.size w4 (w4.alloc (.cells #[.int .i64 0, .slice none 0 0, .int .u64 0] 33)) := (Below.refl _ _).alloc (Nat.le_refl _) _
  have hb9 : Box (w4.alloc (.cells #[.int .i64 0, .slice none 0 0, .int .u64 0] 33)) w4.heap.size _ _ _ := box1 w4 _ _ _
  have HB5 := Lib.hid (HB4.out.trans (hbA.mono HB4.out.size))
  have HBy5 := Lib.hid (HBy4.out.below hbA HBy4.out.lt)
  have hy4 := HBy4.out.lt
  generalize hw5 : w4.alloc (.cells #[.int .i64 0, .slice none 0 0, .int .u64 0] 33) = w5 at *
  have HB9 := Lib.hid hb9
  clear hbA hw5
  have a0 := hb9.cell0
  have a1 := hb9.cell1
  have a2 := hb9.cell2
  have b0 := HBy5.out.cell0
  have b1 := HBy5.out.cell1
  have b2 := HBy5.out.cell2
  have zb0 := HBy5.out.free 0
  have zb1 := HBy5.out.free 1
  have zb2 := HBy5.out.free 2
  clear hb9
  go_wp2_with fail
  go_region
  go_wp2
  refine bodyPost_ret (results_begun (p := 5) (q := 4) (r := 6) rfl (HBy5.out.drew.set _ _ _) _ rfl) rfl ?_
  exact ⟨(Box.onlySet _ (w.heap.size + 1) _ _ _).new (below_drewN HB5.out 1) (by omega) HB5.out.size, .inl ⟨0, _, _, _, _, rfl⟩⟩

set_option maxRecDepth 100000 in
set_option maxHeartbeats 3200000 in
theorem begun_ok {w : World} {q : BG} {v : Value} {os : List OPV} (hos : OpsIn w v os) (n : Nat) (hn : n < 64) (hqn : q.self = n) (hq : q.Ok) (he : q.ep ≤ 4611686018427387904) :
    Calls Try.prog 10 #[q.val, v] w fun e w' => BegunIs w e w' := by
  have hb2 : Below w.heap.size w ((w.alloc (.cells q.cells.toArray 26)).alloc (.cells #[.int .i64 0, .slice none 0 0, .int .u64 0] 33)) := below2 _ _ _
  have hby : Box ((w.alloc (.cells q.cells.toArray 26)).alloc (.cells #[.int .i64 0, .slice none 0 0, .int .u64 0] 33)) (w.heap.size + 1) (.int .i64 0) (.slice none 0 0) (.int .u64 0) := box2 _ _ _ _ _
  have hb0 : BgAt ((w.alloc (.cells q.cells.toArray 26)).alloc (.cells #[.int .i64 0, .slice none 0 0, .int .u64 0] 33)) w.heap.size q := by
    unfold BgAt
    rw [Below.heap_alloc _ _ _ (by simp)]
    exact heap_alloc_new w _
  unfold BG.val
  have d0 := hb0.self
  have d2 := hb0.ep
  have HW := Lib.hid hb0.words
  have HS24 : Hid ((Try.prog.info? 24).map (·.size) = some (wordsList q.c).length) := by rw [wordsList_len]; exact size24b
  have HWB : Hid (∀ u, Below ((w.alloc (.cells q.cells.toArray 26)).alloc (.cells #[.int .i64 0, .slice none 0 0, .int .u64 0] 33)).heap.size ((w.alloc (.cells q.cells.toArray 26)).alloc (.cells #[.int .i64 0, .slice none 0 0, .int .u64 0] 33)) u → BgAt u w.heap.size q) := fun u hu => (hu.block _ (by simp; omega)).trans hb0
  have hqe := hq.ep
  have HN := Lib.hid fun (u : World) => new_ok u (wordsArr_bits hq.lt) n q.ep hn hqe he
  have HR := Lib.hid fun (u : World) => rnew_ok u q.c hq.lt n hn q.ep he
  have HOk0 : Hid ((newV n q.c q.ep).Ok 4611686018427387904) := newV_ok hn hqe he
  have HOps := Lib.hid hos
  have HFew := Lib.hid fun (u : World) (hu : OpsIn u v os) => few_any hu
  have HSelf0 : Hid ((newV n q.c q.ep).self = n) := rfl
  have HCur0 : Hid ((newV n q.c q.ep).cur = q.ep) := rfl
  rw [hqn] at d0
  unfold wordsArr at HN HR
  generalize q.cells.toArray = QC at *
  generalize newV n q.c q.ep = s0 at *
  generalize hw2 : (w.alloc (.cells QC 26)).alloc (.cells #[.int .i64 0, .slice none 0 0, .int .u64 0] 33) = w2 at *
  have HW2 := Lib.hid hw2
  have HBel := Lib.hid hb2
  have HBy := Lib.hid hby
  have hyl := hby.lt
  have hqn2 := Lib.hid hqn
  clear hw2 hb2 hby hb0 hos hqn hq
  go_enter Try.func10, Try.ntmps10
  go_upto_region 1 with fail
  rw [HW2.out]
  go_wp2_with (with_reducible refine wpList_load_mid rfl 24 (.tmp 21) rfl w.heap.size 1 rfl (wordsList q.c) _ HW.out Try.underlying24 rfl HS24.out ?_)
  refine (HN.out _).mono ?_
  rintro e w3 ⟨rfl, hb3, hv3⟩
  have hq3 := HWB.out w3 hb3
  have e0 := hq3.self
  have e2 := hq3.ep
  rw [hqn2.out] at e0
  have HW3 := Lib.hid hq3.words
  have HB3 := Lib.hid (HBel.out.trans (hb3.mono HBel.out.size))
  have HBy3 := Lib.hid (HBy.out.below hb3 hyl)
  have HV3 := Lib.hid hv3
  have hg3 := hv3.lt
  have hg0 : w.heap.size + 1 < w2.heap.size + 1 + 1 := by omega
  generalize w2.heap.size + 1 + 1 = g at *
  clear hb3 hq3 hv3
  go_wp2_with (with_reducible refine wpList_load_mid rfl 24 (.tmp 31) rfl w.heap.size 1 rfl (wordsList q.c) _ HW3.out Try.underlying24 rfl HS24.out ?_)
  refine (HR.out _).mono ?_
  rintro e w4 ⟨gr, cap4, rfl, hr4, hb4⟩
  have HB4 := Lib.hid (HB3.out.trans (hb4.mono HB3.out.size))
  have HBy4 := Lib.hid (HBy3.out.below hb4 HBy3.out.lt)
  have HV4 := Lib.hid (HV3.out.below hb4)
  have HR4 := Lib.hid hr4
  have hrl := hr4.lt
  clear hb4 hr4
  unfold refVal
  go_upto_region 3 with fail
  have hbA : Below w4.heap.size w4 (w4.alloc (.cells #[.int .i64 (n : Int), .slice (some ⟨gr, 0, none⟩) 64 cap4, .int .u64 q.ep] 33)) := (Below.refl _ _).alloc (Nat.le_refl _) _
  have hb9 : Box (w4.alloc (.cells #[.int .i64 (n : Int), .slice (some ⟨gr, 0, none⟩) 64 cap4, .int .u64 q.ep] 33)) w4.heap.size _ _ _ := box1 w4 _ _ _
  have HB5 := Lib.hid (HB4.out.trans (hbA.mono HB4.out.size))
  have HBy5 := Lib.hid (HBy4.out.below hbA HBy4.out.lt)
  have HV5 := Lib.hid (HV4.out.below hbA)
  have HR5 := Lib.hid (HR4.out.below hbA)
  have hy4 := HBy4.out.lt
  generalize hw5 : w4.alloc (.cells #[.int .i64 (n : Int), .slice (some ⟨gr, 0, none⟩) 64 cap4, .int .u64 q.ep] 33) = w5 at *
  have HB9 := Lib.hid hb9
  clear hbA hw5 hb9 d0 d2 e0 e2
  generalize w3.heap.size = Bn at *
  generalize w4.heap.size = r9 at *
  have hv4l := HV4.out.lt
  go_wp2_with fail
  refine (HFew.out _ (HOps.out.belowN HB5.out)).mono ?_
  rintro e w6 ⟨b, rfl, hfew, hb6⟩
  have HS6 : Hid (BgS w g Bn gr cap4 r9 (w.heap.size + 1) s0 n q.ep w6) := BgS.belowW ⟨HV5.out, HR5.out, HB9.out, HBy5.out, HB5.out⟩ hb6
  clear hb6
  cases b with
  | false =>
    have a0 := HS6.out.box9.cell0
    have a1 := HS6.out.box9.cell1
    have a2 := HS6.out.box9.cell2
    have b0 := HS6.out.box5.cell0
    have b1 := HS6.out.box5.cell1
    have b2 := HS6.out.box5.cell2
    have zb0 := HS6.out.box5.free 0
    have zb1 := HS6.out.box5.free 1
    have zb2 := HS6.out.box5.free 2
    go_wp2_with fail
    go_region
    go_wp2
    refine bodyPost_ret (results_begun (p := 5) (q := 4) (r := 6) rfl (HS6.out.box5.drew.set _ _ _) _ rfl) rfl ?_
    exact ⟨(Box.onlySet _ (w.heap.size + 1) _ _ _).new (below_drewN HS6.out.bel 1) (by omega) HS6.out.bel.size, .inl ⟨n, _, _, _, _, rfl⟩⟩
  | true =>
    have HLen := Lib.hid (hfew rfl)
    clear hfew
    obtain ⟨ao, cap, rfl, hoks, hlen, hcells⟩ := HOps.out
    have HOks := Lib.hid hoks
    have HCells := Lib.hid hcells
    have hl0 : (0 : Int) ≤ os.length := by omega
    have hl40 : os.length ≤ 40 := HLen.out
    have hli : (os.length : Int) ≤ 40 := by omega
    have HZ := zero38
    have hzs := zeroOp_size
    have hzne : ¬ zeroOp = #[] := by
      intro e
      rw [e] at hzs
      simp at hzs
    generalize zeroOp = Z at *
    have hS0 : BgS w g Bn gr cap4 r9 (w.heap.size + 1) s0 s0.self s0.cur w6 := by rw [HSelf0.out, HCur0.out]; exact HS6.out
    have HS0 := Lib.hid hS0
    have hgn : w.heap.size + 1 < g ∧ g < Bn ∧ Bn < r9 := by omega
    clear hS0 hoks hcells HS6 HB5 HV5 HR5 HB9 HBy5 HB4 HV4 HR4 HBy4 hy4 hv4l hrl hg3 hg0 HBy3 HV3 HB3 HW3
    go_wp2_with fail
    go_loopw [59] (fun i wx => ∃ (k : Nat) (s : VS) (gr cap : Nat), k ≤ os.length ∧ i = .int .i64 k ∧ BgS w g Bn gr cap r9 (w.heap.size + 1) s s.self s.cur wx ∧ s.Ok (4611686018427387904 + k)) (fun i _ => os.length - (intOf i).toNat)
    case atStart => exact ⟨0, s0, gr, cap4, Nat.zero_le _, rfl, HS0.out, by simpa using HOk0.out⟩
    case round =>
      obtain ⟨k, s, gr, cap5, hk, rfl, hs, hok⟩ := hrel
      have HS := Lib.hid hs
      have HOk := Lib.hid hok
      clear hs hok
      by_cases hlt : k < os.length
      · obtain ⟨b, off, rfl, hbW, hrows⟩ := HCells.out (by omega)
        obtain ⟨o, ho⟩ : ∃ o, os[k]? = some o := ⟨_, List.getElem?_eq_getElem hlt⟩
        have HRow : Hid (wr.rangeAt b (off + k * 265) o.cells) := by
          intro j u hu
          rw [HS.out.bel.cell (p := ⟨b, off + k * 265 + j, none⟩) hbW]
          exact hrows k o ho j u hu
        have hoOk := HOks.out o (List.mem_of_getElem? ho)
        have HS38 : Hid ((Try.prog.info? 38).map (·.size) = some o.cells.length) := by rw [OPV.cells_len]; exact size38
        have HS38b : Hid ((Try.prog.info? 38).map (·.size) = some o.cells.toArray.size) := by rw [List.size_toArray]; exact HS38.out
        have HZS : Hid (Z.size = o.cells.toArray.size) := by rw [hzs, List.size_toArray, OPV.cells_len]; exact rfl
        have H1 := Lib.hid o.oneCell
        have hki : (0 : Int) ≤ (k : Int) ∧ (k : Int) < os.length := by omega
        have HD := Lib.hid fun (u : World) (hu : ViewAt u g s) => does_any hu HOk.out (by omega) (by omega) hoOk
        have HRD := Lib.hid fun (u : World) (hu : RN u Bn gr cap5 (NS.of s)) => rdo_any hu HOk.out (by omega) (by omega) hoOk
        have HOk2 := Lib.hid (HOk.out.doesD (by omega) hoOk)
        have HLl := Lib.hid (doesL_len s o)
        have HSelf2 := Lib.hid (doesD_self s o)
        unfold OPV.val at HD HRD
        unfold refVal at HRD
        clear hrows ho hoOk
        go_upto_region 10 with (first
          | (with_reducible refine wpList_load_mid rfl 38 (.tmp 61) rfl b (off + k * 265) rfl o.cells _ HRow.out Try.underlying38 rfl HS38.out ?_)
          | (with_reducible refine wpList_store_row rfl 38 (.tmp 12) (.tmp 62) rfl wr.heap.size o.cells.toArray rfl rfl 38 Z (heap_alloc_new wr _) HS38b.out HZS.out H1.out ?_))
        have hblk := setRow_heap (wr.alloc (.cells Z 38)) wr.heap.size Z o.cells.toArray 38 (0, 0) (heap_alloc_new wr _)
        have hbu : Below wr.heap.size wr ((wr.alloc (.cells Z 38)).setRow wr.heap.size o.cells.toArray) := below_setRow ((Below.refl _ _).alloc (Nat.le_refl _) _) (Nat.le_refl _) _
        have hus : ((wr.alloc (.cells Z 38)).setRow wr.heap.size o.cells.toArray).heap.size = wr.heap.size + 1 := by simp
        have HSu := Lib.hid (HS.out.belowW hbu)
        generalize (wr.alloc (.cells Z 38)).setRow wr.heap.size o.cells.toArray = u1 at *
        have HBlk := Lib.hid hblk
        have HGl : Hid (g < wr.heap.size ∧ r9 < wr.heap.size ∧ w.heap.size + 1 < wr.heap.size) := ⟨HS.out.view.lt, HS.out.box9.lt, HS.out.box5.lt⟩
        generalize wr.heap.size = r12 at *
        clear hblk hbu HRow
        have a0 := HSu.out.box9.cell0
        have a1 := HSu.out.box9.cell1
        have a2 := HSu.out.box9.cell2
        go_wp2_with (with_reducible refine wpList_load_row rfl 38 (.tmp 12) rfl r12 rfl 38 o.cells.toArray (0, 0) _ HBlk.out Try.underlying38 rfl HS38b.out ?_)
        refine (HRD.out _ HSu.out.rn).mono ?_
        rintro e w7 ⟨gr2, cap7, v7, rfl, hrow7, hr7, hb7⟩
        have HS7 : Hid (BgS w g Bn gr cap5 r9 (w.heap.size + 1) s s.self s.cur w7) := HSu.out.belowW hb7
        have HR7 := Lib.hid hr7
        have HRow7 := Lib.hid hrow7
        have HBlk7 : Hid (w7.heap[r12]? = some (.cells o.cells.toArray 38 (0, 0))) := (hb7.block _ (by rw [hus]; omega)).trans HBlk.out
        have h7s := hb7.size
        clear a0 a1 a2 hrow7 hr7 hb7 HRD
        obtain ⟨s', hs'⟩ : ∃ s', s' = s.doesD o := ⟨_, rfl⟩
        rw [← hs'] at HR7 HOk2 HSelf2 ⊢
        have HS' := Lib.hid hs'
        clear hs'
        go_upto_region 11 with fail
        have hbA : Below w7.heap.size w7 (w7.alloc (.cells #[.int .i64 (s.self : Int), .slice (some ⟨gr2, 0, none⟩) 64 cap7, .int .u64 s'.cur] 33)) := (Below.refl _ _).alloc (Nat.le_refl _) _
        have hb13 : Box (w7.alloc (.cells #[.int .i64 (s.self : Int), .slice (some ⟨gr2, 0, none⟩) 64 cap7, .int .u64 s'.cur] 33)) w7.heap.size _ _ _ := box1 w7 _ _ _
        have HS8 := Lib.hid (HS7.out.belowW hbA)
        have HR8 := Lib.hid (HR7.out.below hbA)
        have HRow8 := Lib.hid (HRow7.out.below hbA)
        have HBlk8 : Hid ((w7.alloc (.cells #[.int .i64 (s.self : Int), .slice (some ⟨gr2, 0, none⟩) 64 cap7, .int .u64 s'.cur] 33)).heap[r12]? = some (.cells o.cells.toArray 38 (0, 0))) := (hbA.block _ (by omega)).trans HBlk7.out
        generalize hw8 : w7.alloc (.cells #[.int .i64 (s.self : Int), .slice (some ⟨gr2, 0, none⟩) 64 cap7, .int .u64 s'.cur] 33) = w8 at *
        have c0 := hb13.cell0
        have c1 := hb13.cell1
        have c2 := hb13.cell2
        have a0 := HS8.out.box9.cell0
        have a1 := HS8.out.box9.cell1
        have a2 := HS8.out.box9.cell2
        have za0 := HS8.out.box9.free 0
        have za1 := HS8.out.box9.free 1
        have za2 := HS8.out.box9.free 2
        clear hbA hw8 hb13
        go_upto_region 12 with fail
        have ho9 := Box.onlySet w8 r9 (.int .i64 (s.self : Int)) (.slice (some ⟨gr2, 0, none⟩) 64 cap7) (.int .u64 s'.cur)
        have HB9 := Lib.hid (HS8.out.box9.set (.int .i64 (s.self : Int)) (.slice (some ⟨gr2, 0, none⟩) 64 cap7) (.int .u64 s'.cur))
        have HR9 := Lib.hid (HR8.out.only ho9 (HR8.out.neBox HS8.out.box9))
        have HV9 := Lib.hid (HS8.out.view.only ho9 (by omega))
        have HY9 := Lib.hid (HS8.out.box5.only ho9 (by omega))
        have HRow9 := Lib.hid (HRow8.out.only ho9 (by have := HGl.out.2.1; omega))
        have HL9 := Lib.hid (ho9.new HS8.out.bel (by omega) HS8.out.bel.size)
        have h8s := HS8.out.box9.lt
        have HBlk9 : Hid ((((w8.setCell ⟨r9, 0, none⟩ (.int .i64 (s.self : Int))).setCell ⟨r9, 1, none⟩ (.slice (some ⟨gr2, 0, none⟩) 64 cap7)).setCell ⟨r9, 2, none⟩ (.int .u64 s'.cur)).heap[r12]? = some (.cells o.cells.toArray 38 (0, 0))) := (ho9.block r12 (by
          have h := HBlk8.out
          rcases Nat.lt_or_ge r12 w8.heap.size with h1 | h1
          · exact h1
          · rw [Array.getElem?_eq_none h1] at h; cases h) (by have := HGl.out.2.1; simp; omega)).trans HBlk8.out
        generalize ((w8.setCell ⟨r9, 0, none⟩ (.int .i64 (s.self : Int))).setCell ⟨r9, 1, none⟩ (.slice (some ⟨gr2, 0, none⟩) 64 cap7)).setCell ⟨r9, 2, none⟩ (.int .u64 s'.cur) = w9 at *
        clear ho9 a0 a1 a2 za0 za1 za2 c0 c1 c2 HRow8 HR8 HS8 HBlk8 HS7 HR7 HRow7 HBlk7 HSu HBlk
        go_wp2_with (with_reducible refine wpList_load_row rfl 38 (.tmp 12) rfl r12 rfl 38 o.cells.toArray (0, 0) _ HBlk9.out Try.underlying38 rfl HS38b.out ?_)
        refine (HD.out _ HV9.out).mono ?_
        rintro e w10 ⟨v10, rfl, hrow10, hv10, ho10⟩
        rw [← HS'.out] at hv10
        have HV10 := Lib.hid hv10
        have HB10 := Lib.hid (HB9.out.only ho10 (by omega))
        have HR10 := Lib.hid (HR9.out.only ho10 (by have := HR9.out.lt.1; omega))
        have HY10 := Lib.hid (HY9.out.only ho10 (by omega))
        have HRowA := Lib.hid ((HRow9.out.only ho10 (by have := HGl.out.1; omega)).mono (Nat.zero_le _))
        have HRowB := Lib.hid (hrow10.mono (Nat.zero_le _))
        have HL10 := Lib.hid (ho10.new HL9.out (by omega) HL9.out.size)
        have HSm := Lib.hid (same_any HRowB.out HRowA.out HLl.out)
        generalize VS.doesE o = ee at *
        have hee : (ee != ee) = false := by simp
        clear hrow10 hv10 ho10
        go_wp2_with fail
        refine HSm.out.mono ?_
        rintro e w11 ⟨rfl, hb11⟩
        have HS11 : Hid (BgS w g Bn gr2 cap7 r9 (w.heap.size + 1) s' s'.self s'.cur w11) := by
          rw [HSelf2.out]
          exact BgS.belowW ⟨HV10.out, HR10.out, HB10.out, HY10.out, HL10.out⟩ hb11
        clear hb11
        go_wp2
        go_roundw
        case rel => exact ⟨k + 1, s', gr2, cap7, by omega, by go_num, HS11.out, by have := HOk2.out; rw [show (4611686018427387904 : Int) + ((k + 1 : Nat) : Int) = 4611686018427387904 + k + 1 by omega]; exact this⟩
        case measure => simp [intOf]; omega
      · have a0 := HS.out.box9.cell0
        have a1 := HS.out.box9.cell1
        have a2 := HS.out.box9.cell2
        have b0 := HS.out.box5.cell0
        have b1 := HS.out.box5.cell1
        have b2 := HS.out.box5.cell2
        have zb0 := HS.out.box5.free 0
        have zb1 := HS.out.box5.free 1
        have zb2 := HS.out.box5.free 2
        go_wp2_with fail
        go_region
        go_wp2
        refine bodyPost_ret (results_begun (p := 5) (q := 4) (r := 6) rfl (HS.out.box5.drew.set _ _ _) _ rfl) rfl ?_
        have ho := Box.onlySet wr.drew (w.heap.size + 1) (.int .i64 (s.self : Int)) (.slice (some ⟨gr, 0, none⟩) 64 cap5) (.int .u64 s.cur)
        refine ⟨ho.new (below_drewN HS.out.bel 1) (by omega) HS.out.bel.size, .inr ⟨g, gr, cap5, Bn, s, rfl, HS.out.view.drew.only ho (by omega), by omega, by omega, HS.out.rn.drew.only ho (HS.out.rn.neBox HS.out.box5), ?_⟩⟩
        have := HOk.out.up (show (4611686018427387904 : Int) + k ≤ 4611686018427387904 + 40 by omega)
        exact this

theorem begun_any {w : World} {q : BG} (hq : q.Ok) {v : Value} {os : List OPV} (hos : OpsIn w v os) :
    Calls Try.prog 10 #[q.val, v] w fun e w' => BegunIs w e w' := by
  by_cases hn : inNode q.self = true
  · by_cases he : q.ep ≤ 4611686018427387904
    · have hr := inNode_true hn
      exact begun_ok hos q.self.toNat (by omega) (by omega) hq he
    · exact begun_no 1 (by decide) (fun u => new_big u _ _ _ hn (by omega)) (fun u => rnew_big u _ _ _ hn (by omega))
  · have hn2 : inNode q.self = false := by simpa using hn
    exact begun_no 150 (by decide) (fun u => new_no u _ _ _ hn2) (fun u => rnew_no u _ _ _ hn2)
end Go.Proofs.Ytlccbgjlinlioaa
