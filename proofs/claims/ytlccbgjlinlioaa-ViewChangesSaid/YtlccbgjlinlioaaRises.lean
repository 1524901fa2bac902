/- ViewRises: the walk of the law. -/
import Derived.Test.YtlccbgjlinlioaaAlive
import Derived.Test.YtlccbgjlinlioaaOpen
namespace Go.Proofs.Ytlccbgjlinlioaa
open Go.RowKit

/-! no epoch falls -/
structure VS.Le (s t : VS) : Prop where
  cur : s.cur ≤ t.cur
  ep : ∀ n, s.ep n ≤ t.ep n
theorem VS.Le.refl (s : VS) : s.Le s := ⟨Int.le_refl _, fun _ => Int.le_refl _⟩
theorem VS.Le.trans {a b c : VS} (h : a.Le b) (k : b.Le c) : a.Le c := ⟨Int.le_trans h.cur k.cur, fun n => Int.le_trans (h.ep n) (k.ep n)⟩
theorem VS.Le.raise {s : VS} {M : Int} (h : s.Ok M) : s.Le s.raise := by
  refine ⟨by show s.cur ≤ s.cur + 1; omega, fun n => ?_⟩
  have := h.ep n
  unfold VS.raise VS.setEp VS.setCur
  simp only
  split <;> omega
theorem VS.Le.took (s : VS) (p : PK) (n : Nat) : s.Le (s.took p n) := by
  unfold VS.took
  split
  · rename_i h
    refine ⟨by rw [claim_cur]; show s.cur ≤ max s.cur p.cur; omega, fun j => ?_⟩
    rw [claim_ep]
    simp only
    split
    · rename_i hj; subst hj; exact h
    · exact Int.le_refl _
  · exact ⟨by show s.cur ≤ max s.cur p.cur; omega, fun j => Int.le_refl _⟩
theorem VS.Le.takeD {s : VS} {M : Int} (h : s.Ok M) (hM : 4611686018427387904 ≤ M) {p : PK} (hp : p.Ok) : s.Le (s.takeD p) := by
  unfold VS.takeD
  cases hr : s.refuses p with
  | true => simp only [if_true]; exact VS.Le.refl s
  | false =>
    obtain ⟨h1, h2, h3, h4⟩ := VS.taken hr
    obtain ⟨f1, f2, f3⟩ := PK.right_facts h1
    have hok := h.took hM hp h2 f2 p.who (PK.who_lt h1)
    simp only [Bool.false_eq_true, if_false]
    split
    · exact VS.Le.took s p _
    · refine (VS.Le.took s p p.who).trans ?_
      unfold VS.raised
      split
      · exact VS.Le.raise hok
      · exact VS.Le.refl _
theorem VS.Le.doesD {s : VS} {M : Int} (h : s.Ok M) (hM : 4611686018427387904 ≤ M) {o : OPV} (ho : o.Ok) : s.Le (s.doesD o) := by
  unfold VS.doesD
  split
  · exact VS.Le.takeD h hM ho.p
  · split
    · unfold VS.winD
      split
      · rename_i hc
        have hl := ho.least
        have hcu := h.cur
        have hs := h.self
        have h1 := h.setOwn o.slot.toNat s.self (by omega)
        have h2 : ((s.setOwn o.slot.toNat s.self).setCur (max s.cur o.least)).Ok M := h1.setCur _ (by show s.cur ≤ max s.cur o.least; omega) (by omega)
        have e1 : s.Le ((s.setOwn o.slot.toNat s.self).setCur (max s.cur o.least)) := ⟨by show s.cur ≤ max s.cur o.least; omega, fun _ => Int.le_refl _⟩
        exact e1.trans (VS.Le.raise h2)
      · exact VS.Le.refl s
    · split
      · unfold VS.giveD
        split
        · split
          · exact ⟨Int.le_refl _, fun _ => Int.le_refl _⟩
          · exact VS.Le.refl s
        · exact VS.Le.refl s
      · exact VS.Le.refl s

theorem VS.epoch_nat (s : VS) (m : Nat) (h : m < 64) : s.epoch m = s.ep m := by
  have hi : inNode m = true := decide_eq_true (by omega)
  unfold VS.epoch
  rw [if_pos hi, Int.toNat_natCast]

/-- block b is a beginning -/
def BgAt (w : World) (b : Nat) (q : BG) : Prop := w.heap[b]? = some (.cells q.cells.toArray 26 (0, 0))
theorem BgAt.self {w : World} {b : Nat} {q : BG} (h : BgAt w b q) : w.cell? ⟨b, 0, none⟩ = some (.int .i64 q.self) := (cell_of_row _ _ _ _ _ _ h).trans rfl
theorem BgAt.ep {w : World} {b : Nat} {q : BG} (h : BgAt w b q) : w.cell? ⟨b, 257, none⟩ = some (.int .u64 q.ep) := by
  rw [cell_of_row _ _ _ _ _ _ h, List.getElem?_toArray]
  unfold BG.cells
  rw [List.getElem?_append_right (by simp [wordsList_len])]
  simp [wordsList_len]
theorem BgAt.words {w : World} {b : Nat} {q : BG} (h : BgAt w b q) : w.rangeAt b 1 (wordsList q.c) := fun j v hv => by
  have hj := (List.getElem?_eq_some_iff.1 hv).1
  rw [cell_of_row _ _ _ _ _ _ h, List.getElem?_toArray]
  unfold BG.cells
  rw [List.getElem?_append_left (by simp; omega), List.getElem?_append_right (by simp)]
  have e : 1 + j - [Value.int .i64 q.self].length = j := by simp
  rw [e]
  exact hv

def zeroOp : Array Value := (OPV.mk 0 0 0 0 (PK.mk 0 0 0 0 0 fun _ => 0)).cells.toArray
theorem zero38 (w : World) : (zeroValue 38).run Try.prog w = .ok (.agg zeroOp) w := by kernel_rfl
theorem zeroOp_size : zeroOp.size = 265 := by simp [zeroOp, OPV.cells_len]
theorem size38 : (Try.prog.info? 38).map (·.size) = some 265 := by kernel_rfl
theorem OPV.oneCell (o : OPV) : o.cells.toArray.all (·.oneCell') = true := by
  refine all_oneCell_toArray fun v hv => ?_
  unfold OPV.cells at hv
  simp only [List.mem_append, List.mem_cons, List.not_mem_nil, or_false] at hv
  rcases hv with (rfl | rfl | rfl | rfl) | hv
  · rfl
  · rfl
  · rfl
  · rfl
  · exact o.p.oneCells v hv

set_option maxRecDepth 100000 in
set_option maxHeartbeats 1600000 in
theorem rises_walk {w : World} {q : BG} (hq : q.Ok) {v : Value} {os : List OPV} (hos : OpsIn w v os) :
    Calls Try.prog 9 #[q.val, v] w fun e w' => e = .returned (.bool true) ∧ Below w.heap.size w w' := by
  obtain ⟨ao, cap, rfl, hoks, hlen, hcells⟩ := hos
  have hb0 : BgAt (w.alloc (.cells q.cells.toArray 26)) w.heap.size q := heap_alloc_new w _
  have hbel : Below w.heap.size w (w.alloc (.cells q.cells.toArray 26)) := (Below.refl _ _).alloc (Nat.le_refl _) _
  have d0 := hb0.self
  have d2 := hb0.ep
  have HW := Lib.hid hb0.words
  have HBel := Lib.hid hbel
  have HS24 : Hid ((Try.prog.info? 24).map (·.size) = some (wordsList q.c).length) := by rw [wordsList_len]; exact size24b
  have HAl := Lib.hid alive_any
  unfold BG.val
  generalize q.cells.toArray = QC at *
  have HOks := Lib.hid hoks
  have HCells := Lib.hid hcells
  have hqe := hq.ep
  have HBits : Hid (BitsOf (wordsList q.c).toArray q.c) := wordsArr_bits hq.lt
  clear hb0 hbel hoks hcells hq
  by_cases hn : inNode q.self = true
  · by_cases he : q.ep ≤ 4611686018427387904
    · have hr := inNode_true hn
      obtain ⟨n, hnN⟩ : ∃ n : Nat, q.self = n := ⟨q.self.toNat, by omega⟩
      rw [hnN] at d0
      have HN := Lib.hid fun (u : World) => new_ok u HBits.out n q.ep (by omega) hqe he
      have HOk0 : Hid ((newV n q.c q.ep).Ok 4611686018427387904) := newV_ok (by omega) hqe he
      by_cases hl : os.length ≤ 300
      · have hli : (os.length : Int) ≤ 300 := by omega
        have hl0 : (0 : Int) ≤ os.length := by omega
        clear hn he hr
        go_enter Try.func9, Try.ntmps9
        go_wp2_with (with_reducible refine wpList_load_mid rfl 24 (.tmp 14) rfl w.heap.size 1 rfl (wordsList q.c) _ HW.out Try.underlying24 rfl HS24.out ?_)
        refine (HN.out _).mono ?_
        rintro e w1 ⟨rfl, hb1, hv1⟩
        have HV1 := Lib.hid hv1
        have HB1 := Lib.hid (HBel.out.trans (hb1.mono (by simp)))
        have HSz : Hid (w.heap.size ≤ (w.alloc (.cells QC 26)).heap.size) := by show _ ≤ _; simp
        have HZ := zero38
        have hzs := zeroOp_size
        have hzne : ¬ zeroOp = #[] := by
          intro e
          rw [e] at hzs
          simp at hzs
        generalize zeroOp = Z at *
        generalize hgg : (w.alloc (.cells QC 26)).heap.size + 1 + 1 = g at *
        have HG : Hid (w.heap.size ≤ g) := by rw [← hgg]; exact Nat.le_trans HSz.out (by omega)
        clear hb1 hv1 hgg
        go_wp2_with fail
        go_loopw [35] (fun i wr => ∃ k : Nat, k ≤ os.length ∧ i = .int .i64 k ∧ ∃ s, ViewAt wr g s ∧ s.Ok (4611686018427387904 + k) ∧ Below w.heap.size w wr) (fun i _ => os.length - (intOf i).toNat)
        case atStart => exact ⟨0, Nat.zero_le _, rfl, _, HV1.out, by simpa using HOk0.out, HB1.out⟩
        case round =>
          obtain ⟨k, hk, rfl, s, hv, hok, hbel⟩ := hrel
          have HV := Lib.hid hv
          have HOk := Lib.hid hok
          have HBr := Lib.hid hbel
          have hgl := hv.lt
          by_cases hlt : k < os.length
          · obtain ⟨b, off, rfl, hbW, hrows⟩ := HCells.out (by omega)
            obtain ⟨o, ho⟩ : ∃ o, os[k]? = some o := ⟨_, List.getElem?_eq_getElem hlt⟩
            have HRow : Hid (wr.rangeAt b (off + k * 265) o.cells) := by
              intro j u hu
              rw [HBr.out.cell (p := ⟨b, off + k * 265 + j, none⟩) hbW]
              exact hrows k o ho j u hu
            have hoOk := HOks.out o (List.mem_of_getElem? ho)
            have HS38 : Hid ((Try.prog.info? 38).map (·.size) = some o.cells.length) := by rw [OPV.cells_len]; exact size38
            have HS38b : Hid ((Try.prog.info? 38).map (·.size) = some o.cells.toArray.size) := by rw [List.size_toArray]; exact HS38.out
            have HZS : Hid (Z.size = o.cells.toArray.size) := by rw [hzs, List.size_toArray, OPV.cells_len]; exact rfl
            have H1 := Lib.hid o.oneCell
            have hki : (0 : Int) ≤ (k : Int) ∧ (k : Int) < os.length := by omega
            have HD := Lib.hid fun (u : World) (hu : ViewAt u g s) => does_any hu hok (by omega) (by omega) hoOk
            have HOk2 := Lib.hid (hok.doesD (by omega) hoOk)
            have HLe := Lib.hid (VS.Le.doesD hok (by omega) hoOk)
            clear hv hok hbel hrows ho hoOk
            go_wp2_with (first
              | (with_reducible refine wpList_load_mid rfl 38 (.tmp 37) rfl b (off + k * 265) rfl o.cells _ HRow.out Try.underlying38 rfl HS38.out ?_)
              | (with_reducible refine wpList_store_row rfl 38 (.tmp 8) (.tmp 38) rfl wr.heap.size o.cells.toArray rfl rfl 38 Z (heap_alloc_new wr _) HS38b.out HZS.out H1.out ?_))
            have hblk := setRow_heap (wr.alloc (.cells Z 38)) wr.heap.size Z o.cells.toArray 38 (0, 0) (heap_alloc_new wr _)
            have hbu : Below wr.heap.size wr ((wr.alloc (.cells Z 38)).setRow wr.heap.size o.cells.toArray) := below_setRow ((Below.refl _ _).alloc (Nat.le_refl _) _) (Nat.le_refl _) _
            have hus : ((wr.alloc (.cells Z 38)).setRow wr.heap.size o.cells.toArray).heap.size = wr.heap.size + 1 := by simp
            generalize (wr.alloc (.cells Z 38)).setRow wr.heap.size o.cells.toArray = u1 at *
            have HBu := Lib.hid hbu
            have HVu := Lib.hid (HV.out.below hbu)
            have HBlk := Lib.hid hblk
            have HUs := Lib.hid hus
            clear hblk hbu hus
            refine (clone_any HVu.out).mono ?_
            rintro e w2 ⟨rfl, hvc, hbc, hcs⟩
            obtain ⟨gc, hgc⟩ : ∃ gc, gc = u1.heap.size := ⟨_, rfl⟩
            rw [← hgc] at hvc hbc hcs ⊢
            have HG1 : Hid (g ≠ gc ∧ g < gc ∧ wr.heap.size < gc) := ⟨by rw [hgc, HUs.out]; omega, by rw [hgc, HUs.out]; omega, by rw [hgc, HUs.out]; omega⟩
            have HV2 := Lib.hid (HVu.out.belowN hbc HG1.out.2.1)
            have HC2 := Lib.hid hvc
            have HBlk2 : Hid (w2.heap[wr.heap.size]? = some (.cells o.cells.toArray 38 (0, 0))) := (hbc.block _ HG1.out.2.2).trans HBlk.out
            have HB2 : Hid (Below w.heap.size w w2) := HBr.out.trans ((HBu.out.mono HBr.out.size).trans (hbc.mono (by have := HBr.out.size; have := HG1.out.2.2; omega)))
            clear hvc hbc hcs hgc
            go_wp2_with (with_reducible refine wpList_load_row rfl 38 (.tmp 8) rfl wr.heap.size rfl 38 o.cells.toArray (0, 0) _ HBlk2.out Try.underlying38 rfl HS38b.out ?_)
            refine (HD.out _ HV2.out).mono ?_
            rintro e w3 ⟨vr, rfl, _, hv3, ho3⟩
            have HV3 := Lib.hid hv3
            have HC3 := Lib.hid (HC2.out.only ho3 (fun e => HG1.out.1 e.symm))
            have HB3 : Hid (Below w.heap.size w w3) := ho3.new HB2.out HG.out HB2.out.size
            clear hv3 ho3 HD HBlk2 HBlk HV2 HC2 HB2
            generalize s.doesD o = s' at *
            have hle := HLe.out
            have hcd : decide (s'.cur < s.cur) = false := decide_eq_false (by have := hle.cur; omega)
            have HCu := Lib.hid (current_any HV3.out)
            have HCc := Lib.hid (current_any HC3.out)
            clear hle
            go_wp2_with fail
            refine HCu.out.mono ?_
            rintro e w' ⟨rfl, rfl⟩
            go_wp2_with fail
            refine HCc.out.mono ?_
            rintro e w' ⟨rfl, rfl⟩
            go_wp2_with fail
            generalize wr = wo at *
            go_loopw [53] (fun i wx => ∃ m : Nat, m ≤ 64 ∧ i = .int .i64 m ∧ w3 = wx) (fun i _ => 64 - (intOf i).toNat)
            case atStart => exact ⟨0, by omega, rfl, rfl⟩
            case round =>
              obtain ⟨m, hm, rfl, rfl⟩ := hrel
              by_cases hm2 : m < 64
              · have hmi : (0 : Int) ≤ (m : Int) ∧ (m : Int) < 64 := by omega
                have HE1 := Lib.hid (epoch_any HV3.out (m : Int))
                have HE2 := Lib.hid (epoch_any HC3.out (m : Int))
                have hx1 : s'.epoch m = s'.ep m := VS.epoch_nat s' m hm2
                have hx2 : s.epoch m = s.ep m := VS.epoch_nat s m hm2
                rw [hx1] at HE1
                rw [hx2] at HE2
                have hed : decide (s'.ep m < s.ep m) = false := decide_eq_false (by have := HLe.out.ep m; omega)
                have hfd : decide (s'.cur < s'.ep m) = false := decide_eq_false (by have := HOk2.out.ep m; omega)
                clear hx1 hx2
                go_wp2_with fail
                refine HE1.out.mono ?_
                rintro e w' ⟨rfl, rfl⟩
                go_wp2_with fail
                refine HE2.out.mono ?_
                rintro e w' ⟨rfl, rfl⟩
                go_wp2_with fail
                refine HE1.out.mono ?_
                rintro e w' ⟨rfl, rfl⟩
                go_wp2_with fail
                refine HCu.out.mono ?_
                rintro e w' ⟨rfl, rfl⟩
                go_wp2
                go_roundw
                case rel => exact ⟨m + 1, by omega, by go_num, trivial⟩
                case measure => simp [intOf]; omega
              · have hm3 : m = 64 := by omega
                subst hm3
                go_wp2
                go_roundw
                case rel => exact ⟨k + 1, by omega, by go_num, s', HV3.out, by have := HOk2.out; rw [show (4611686018427387904 : Int) + ((k + 1 : Nat) : Int) = 4611686018427387904 + k + 1 by omega]; exact this, HB3.out⟩
                case measure => simp [intOf]; omega
          · have hk2 : k = os.length := by omega
            subst hk2
            clear hv hok hbel
            go_wp2_with fail
            refine (HAl.out _).mono ?_
            rintro e w2 ⟨rfl, hb2⟩
            have HF := Lib.hid (HBr.out.trans (hb2.mono HBr.out.size))
            clear hb2
            go_wp2
            go_ret
            exact ⟨rfl, HF.out⟩
      · have hli : (300 : Int) < os.length := by omega
        clear hn he hr
        go_enter Try.func9, Try.ntmps9
        go_wp2_with (with_reducible refine wpList_load_mid rfl 24 (.tmp 14) rfl w.heap.size 1 rfl (wordsList q.c) _ HW.out Try.underlying24 rfl HS24.out ?_)
        refine (HN.out _).mono ?_
        rintro e w1 ⟨rfl, hb1, hv1⟩
        have HB1 := Lib.hid (HBel.out.trans (hb1.mono (by simp)))
        clear hb1 hv1
        go_wp2_with fail
        refine (HAl.out _).mono ?_
        rintro e w2 ⟨rfl, hb2⟩
        have HF := Lib.hid (HB1.out.trans (hb2.mono HB1.out.size))
        clear hb2
        go_wp2
        go_ret
        exact ⟨rfl, HF.out⟩
    · have HN := Lib.hid fun (u : World) => new_big u (wordsList q.c).toArray q.self q.ep hn (by omega)
      clear hn he
      go_enter Try.func9, Try.ntmps9
      go_wp2_with (with_reducible refine wpList_load_mid rfl 24 (.tmp 14) rfl w.heap.size 1 rfl (wordsList q.c) _ HW.out Try.underlying24 rfl HS24.out ?_)
      refine (HN.out _).mono ?_
      rintro e w1 ⟨rfl, hb1⟩
      have HB1 := Lib.hid (HBel.out.trans (hb1.mono (by simp)))
      clear hb1
      go_wp2_with fail
      refine (HAl.out _).mono ?_
      rintro e w2 ⟨rfl, hb2⟩
      have HF := Lib.hid (HB1.out.trans (hb2.mono HB1.out.size))
      clear hb2
      go_wp2
      go_ret
      exact ⟨rfl, HF.out⟩
  · have hn2 : inNode q.self = false := by cases h : inNode q.self; rfl; exact absurd h hn
    have HN := Lib.hid fun (u : World) => new_no u (wordsList q.c).toArray q.self q.ep hn2
    clear hn hn2
    go_enter Try.func9, Try.ntmps9
    go_wp2_with (with_reducible refine wpList_load_mid rfl 24 (.tmp 14) rfl w.heap.size 1 rfl (wordsList q.c) _ HW.out Try.underlying24 rfl HS24.out ?_)
    refine (HN.out _).mono ?_
    rintro e w1 ⟨rfl, hb1⟩
    have HB1 := Lib.hid (HBel.out.trans (hb1.mono (by simp)))
    clear hb1
    go_wp2_with fail
    refine (HAl.out _).mono ?_
    rintro e w2 ⟨rfl, hb2⟩
    have HF := Lib.hid (HB1.out.trans (hb2.mono HB1.out.size))
    clear hb2
    go_wp2
    go_ret
    exact ⟨rfl, HF.out⟩
end Go.Proofs.Ytlccbgjlinlioaa
