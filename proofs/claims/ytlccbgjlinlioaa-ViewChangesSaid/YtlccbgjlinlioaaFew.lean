/- The walk of few. -/
import Derived.Test.YtlccbgjlinlioaaRRanges
import Derived.Test.YtlccbgjlinlioaaRises
namespace Go.Proofs.Ytlccbgjlinlioaa
open Go.RowKit

theorem OpAt.words {w : World} {b : Nat} {o : OPV} (h : OpAt w b o) : w.rangeAt b 9 (wordsList o.p.c) := fun j v hv => by
  have := h.pkt (5 + j) v (by
    unfold PK.cells
    rw [List.getElem?_append_right (by simp)]
    have e : 5 + j - [Value.int .i64 o.p.kind, .int .i64 o.p.frm, .int .i64 o.p.of, .int .u64 o.p.ep, .int .u64 o.p.cur].length = j := by simp
    rw [e]
    exact hv)
  rw [show 4 + (5 + j) = 9 + j by omega] at this
  exact this

set_option maxRecDepth 100000 in
set_option maxHeartbeats 1600000 in
theorem few_any {w : World} {v : Value} {os : List OPV} (hos : OpsIn w v os) :
    Calls Try.prog 11 #[v] w fun e w' => ∃ b, e = .returned (.bool b) ∧ (b = true → os.length ≤ 40) ∧ Below w.heap.size w w' := by
  obtain ⟨ao, cap, rfl, hoks, hlen, hcells⟩ := hos
  have HOks := Lib.hid hoks
  have HCells := Lib.hid hcells
  clear hoks hcells
  have hl0 : (0 : Int) ≤ os.length := by omega
  by_cases hl : os.length ≤ 40
  · have hli : (os.length : Int) ≤ 40 := by omega
    have HZ := zero38
    have hzs := zeroOp_size
    have hzne : ¬ zeroOp = #[] := by
      intro e
      rw [e] at hzs
      simp at hzs
    generalize zeroOp = Z at *
    go_enter Try.func11, Try.ntmps11
    go_wp2_with fail
    go_loopw [10] (fun i wr => ∃ k : Nat, k ≤ os.length ∧ i = .int .i64 k ∧ Below w.heap.size w wr) (fun i _ => os.length - (intOf i).toNat)
    case atStart => exact ⟨0, Nat.zero_le _, rfl, Below.refl _ _⟩
    case round =>
      obtain ⟨k, hk, rfl, hbel⟩ := hrel
      have HBr := Lib.hid hbel
      by_cases hlt : k < os.length
      · obtain ⟨b, off, rfl, hbW, hrows⟩ := HCells.out (by omega)
        obtain ⟨o, ho⟩ : ∃ o, os[k]? = some o := ⟨_, List.getElem?_eq_getElem hlt⟩
        have HRow : Hid (wr.rangeAt b (off + k * 265) o.cells) := by
          intro j u hu
          rw [HBr.out.cell (p := ⟨b, off + k * 265 + j, none⟩) hbW]
          exact hrows k o ho j u hu
        have hoOk := HOks.out o (List.mem_of_getElem? ho)
        have HS38 : Hid ((Try.prog.info? 38).map (·.size) = some o.cells.length) := by rw [OPV.cells_len]; exact size38
        have HS38b : Hid ((Try.prog.info? 38).map (·.size) = some o.cells.toArray.size) := by rw [List.size_toArray]; exact HS38.out
        have HZS : Hid (Z.size = o.cells.toArray.size) := by rw [hzs, List.size_toArray, OPV.cells_len]; exact rfl
        have H1 := Lib.hid o.oneCell
        have hki : (0 : Int) ≤ (k : Int) ∧ (k : Int) < os.length := by omega
        have HRg := Lib.hid fun (u : World) => ranges_any hoOk.p.lt u
        have HAl := Lib.hid fun (u : World) => slots_any hoOk.p.lt u
        have HWd : Hid (∀ u : World, OpAt u wr.heap.size o → u.rangeAt wr.heap.size 9 (wordsList o.p.c)) := fun u hu => hu.words
        have HS24 : Hid ((Try.prog.info? 24).map (·.size) = some (wordsList o.p.c).length) := by rw [wordsList_len]; exact size24b
        unfold wordsArr at HRg HAl
        clear hbel hrows ho hoOk
        go_wp2_with (first
          | (with_reducible refine wpList_load_mid rfl 38 (.tmp 12) rfl b (off + k * 265) rfl o.cells _ HRow.out Try.underlying38 rfl HS38.out ?_)
          | (with_reducible refine wpList_store_row rfl 38 (.tmp 4) (.tmp 13) rfl wr.heap.size o.cells.toArray rfl rfl 38 Z (heap_alloc_new wr _) HS38b.out HZS.out H1.out ?_))
        have hblk := setRow_heap (wr.alloc (.cells Z 38)) wr.heap.size Z o.cells.toArray 38 (0, 0) (heap_alloc_new wr _)
        have hbu : Below w.heap.size w ((wr.alloc (.cells Z 38)).setRow wr.heap.size o.cells.toArray) := below_setRow (HBr.out.alloc HBr.out.size _) HBr.out.size _
        have hus : ((wr.alloc (.cells Z 38)).setRow wr.heap.size o.cells.toArray).heap.size = wr.heap.size + 1 := by simp
        have hbs := HBr.out.size
        generalize (wr.alloc (.cells Z 38)).setRow wr.heap.size o.cells.toArray = u1 at *
        have HBu := Lib.hid hbu
        have HWd1 := Lib.hid (HWd.out u1 hblk)
        have HOpk := Lib.hid hblk
        clear hblk hbu
        generalize wordsList o.p.c = WL at *
        clear HWd
        go_wp2_with fail
        refine wp_load_mid 24 (.tmp 15) rfl wr.heap.size 9 rfl WL _ HWd1.out Try.underlying24 rfl HS24.out ?_
        simp only [Act.put, List.setIfInBounds_toArray, List.set_cons_succ, List.set_cons_zero]
        go_wp2_with fail
        refine (HRg.out _).mono ?_
        rintro e w2 ⟨sp, n, cap2, rfl, hb2⟩
        have HB2 : Hid (Below w.heap.size w w2) := HBu.out.trans (hb2.mono (by omega))
        have HWd2 : Hid (w2.rangeAt wr.heap.size 9 WL) := fun j u hu => by rw [hb2.cell (p := ⟨wr.heap.size, 9 + j, none⟩) (by show wr.heap.size < _; omega)]; exact HWd1.out j u hu
        clear hb2
        by_cases hn : 40 < (n : Int)
        · go_wp2
          go_ret
          exact ⟨false, rfl, fun h => absurd h (by decide), HB2.out⟩
        · have hnd : decide (40 < (n : Int)) = false := decide_eq_false hn
          go_wp2_with fail
          refine wp_load_mid 24 (.tmp 22) rfl wr.heap.size 9 rfl WL _ HWd2.out Try.underlying24 rfl HS24.out ?_
          simp only [Act.put, List.setIfInBounds_toArray, List.set_cons_succ, List.set_cons_zero]
          go_wp2_with fail
          refine (HAl.out _).mono ?_
          rintro e w3 ⟨v3, rfl, hi3, hb3⟩
          have HB3 : Hid (Below w.heap.size w w3) := HB2.out.trans (hb3.mono HB2.out.size)
          obtain ⟨sp3, cap3, rfl, _⟩ := own_form hi3
          clear hb3 hi3
          generalize (slotsTo o.p.c 16384).length = n3 at *
          by_cases hn3 : 600 < (n3 : Int)
          · go_wp2
            go_ret
            exact ⟨false, rfl, fun h => absurd h (by decide), HB3.out⟩
          · have hnd3 : decide (600 < (n3 : Int)) = false := decide_eq_false hn3
            go_wp2
            go_roundw
            case rel => exact ⟨k + 1, by omega, by go_num, HB3.out⟩
            case measure => simp [intOf]; omega
      · have hk2 : k = os.length := by omega
        subst hk2
        go_wp2
        go_ret
        exact ⟨true, rfl, fun _ => hl, HBr.out⟩
  · have hli : 40 < (os.length : Int) := by omega
    go_enter Try.func11, Try.ntmps11
    go_wp2
    go_ret
    exact ⟨false, rfl, fun h => absurd h (by decide), Below.refl _ _⟩
end Go.Proofs.Ytlccbgjlinlioaa
