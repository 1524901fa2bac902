/- The walk of slot.Ranges: the slots as ranges. -/
import Derived.Test.YtlccbgjlinlioaaBits
import Derived.Laws.AppendOwn
import Derived.Laws.OwnMore
import Derived.RangeFuncBox
namespace Go.Proofs.Ytlccbgjlinlioaa
open Go.RowKit

def span (r : Nat × Nat) : List Nat := (List.range (r.2 + 1 - r.1)).map (r.1 + ·)
def flat (rs : List (Nat × Nat)) : List Nat := rs.flatMap span
def rangeVals (rs : List (Nat × Nat)) : List Value := rs.flatMap fun r => [.int .i64 (r.1 : Int), .int .i64 (r.2 : Int)]
/-- the slots below n, rising -/
def slotsTo (c : Nat → Nat) (n : Nat) : List Nat := (List.range n).filter (hasBit c)

theorem rangeVals_length (rs : List (Nat × Nat)) : (rangeVals rs).length = rs.length * 2 := by
  induction rs with
  | nil => rfl
  | cons r rs ih => simp only [rangeVals, List.flatMap_cons, List.length_append, List.length_cons, List.length_nil] at *; omega
theorem rangeVals_append (a b : List (Nat × Nat)) : rangeVals (a ++ b) = rangeVals a ++ rangeVals b := by simp [rangeVals]
theorem rangeVals_get (rs : List (Nat × Nat)) : ∀ i r, rs[i]? = some r → (rangeVals rs)[i * 2]? = some (.int .i64 (r.1 : Int)) ∧ (rangeVals rs)[i * 2 + 1]? = some (.int .i64 (r.2 : Int)) := by
  induction rs with
  | nil => intro i r h; simp at h
  | cons x rs ih =>
    intro i r h
    have e : rangeVals (x :: rs) = .int .i64 (x.1 : Int) :: .int .i64 (x.2 : Int) :: rangeVals rs := rfl
    rw [e]
    cases i with
    | zero => simp at h; subst h; exact ⟨rfl, rfl⟩
    | succ i =>
      have := ih i r (by simpa using h)
      rw [show (i + 1) * 2 = i * 2 + 1 + 1 by omega]
      exact ⟨by rw [List.getElem?_cons_succ, List.getElem?_cons_succ]; exact this.1, by rw [List.getElem?_cons_succ, List.getElem?_cons_succ]; exact this.2⟩

structure RInv (c : Nat → Nat) (n : Nat) (rs : List (Nat × Nat)) : Prop where
  all : flat rs = slotsTo c n
  each : ∀ r ∈ rs, r.1 ≤ r.2 ∧ r.2 < n

theorem flat_length (rs : List (Nat × Nat)) (h : ∀ r ∈ rs, r.1 ≤ r.2) : rs.length ≤ (flat rs).length := by
  induction rs with
  | nil => simp
  | cons r rs ih =>
    have h1 := h r (by simp)
    have := ih (fun x hx => h x (by simp [hx]))
    simp only [flat, List.flatMap_cons, List.length_append, List.length_cons] at *
    have : (span r).length = r.2 + 1 - r.1 := by simp [span]
    omega
theorem RInv.length {c : Nat → Nat} {n : Nat} {rs : List (Nat × Nat)} (h : RInv c n rs) : rs.length ≤ n := by
  have h1 := flat_length rs (fun r hr => (h.each r hr).1)
  rw [h.all] at h1
  have h2 : (slotsTo c n).length ≤ n := by
    have := List.length_filter_le (hasBit c) (List.range n)
    simpa [slotsTo] using this
  omega
theorem slotsTo_succ (c : Nat → Nat) (n : Nat) : slotsTo c (n + 1) = slotsTo c n ++ if hasBit c n then [n] else [] := by
  unfold slotsTo
  rw [List.range_succ, List.filter_append]
  congr 1
  cases h : hasBit c n <;> simp [h]
theorem slotsTo_skip (c : Nat → Nat) (n m : Nat) (h : ∀ j, n ≤ j → j < n + m → hasBit c j = false) : slotsTo c (n + m) = slotsTo c n := by
  induction m with
  | zero => rfl
  | succ m ih =>
    rw [← Nat.add_assoc, slotsTo_succ, h (n + m) (by omega) (by omega), ih (fun j h1 h2 => h j h1 (by omega))]
    simp
theorem RInv.zero (c : Nat → Nat) : RInv c 0 [] := ⟨rfl, fun r hr => by simp at hr⟩
theorem RInv.skip64 {c : Nat → Nat} {n : Nat} {rs : List (Nat × Nat)} (h : RInv c n rs) (hb : ∀ j, n ≤ j → j < n + 64 → hasBit c j = false) : RInv c (n + 64) rs :=
  ⟨by rw [slotsTo_skip c n 64 hb]; exact h.all, fun r hr => by have := h.each r hr; omega⟩
theorem RInv.skip {c : Nat → Nat} {n : Nat} {rs : List (Nat × Nat)} (h : RInv c n rs) (hb : hasBit c n = false) : RInv c (n + 1) rs :=
  ⟨by rw [slotsTo_succ, hb]; simpa using h.all, fun r hr => by have := h.each r hr; omega⟩
theorem flat_append (a b : List (Nat × Nat)) : flat (a ++ b) = flat a ++ flat b := by simp [flat]
theorem RInv.push {c : Nat → Nat} {n : Nat} {rs : List (Nat × Nat)} (h : RInv c n rs) (hb : hasBit c n = true) : RInv c (n + 1) (rs ++ [(n, n)]) := by
  refine ⟨?_, fun r hr => ?_⟩
  · rw [flat_append, slotsTo_succ, hb, h.all]
    simp [flat, span]
  · rcases List.mem_append.1 hr with hr | hr
    · have := h.each r hr; omega
    · simp at hr; subst hr; exact ⟨Nat.le_refl _, Nat.lt_succ_self _⟩
theorem RInv.grow {c : Nat → Nat} {n a b : Nat} {rs : List (Nat × Nat)} (h : RInv c n (rs ++ [(a, b)])) (hb : hasBit c n = true) (he : b + 1 = n) : RInv c (n + 1) (rs ++ [(a, n)]) := by
  have hab := (h.each (a, b) (by simp)).1
  simp only at hab
  refine ⟨?_, fun r hr => ?_⟩
  · have hf := h.all
    rw [flat_append] at hf ⊢
    rw [slotsTo_succ, hb, ← hf]
    simp only [flat, span, List.flatMap_cons, List.flatMap_nil, List.append_nil, if_true, List.append_assoc]
    congr 1
    rw [show n + 1 - a = (b + 1 - a) + 1 by omega, List.range_succ, List.map_append]
    congr 1
    simp
    omega
  · rcases List.mem_append.1 hr with hr | hr
    · have := h.each r (by simp [hr]); omega
    · simp at hr; subst hr; simp only; omega

theorem rangeVals_grow (rs : List (Nat × Nat)) (a b n : Nat) : (rangeVals (rs ++ [(a, b)])).set (rs.length * 2 + 1) (.int .i64 (n : Int)) = rangeVals (rs ++ [(a, n)]) := by
  rw [rangeVals_append, rangeVals_append, List.set_append_right _ _ (by rw [rangeVals_length]; omega), rangeVals_length]
  rw [show rs.length * 2 + 1 - rs.length * 2 = 1 by omega]
  rfl

theorem size24 : (Try.prog.info? 24).map (·.size) = some 256 := by kernel_rfl
theorem Try.info94 : (Try.prog.info? 94).map (fun i => (i.zero, i.size, i.bytes)) = some (some (.agg #[.int .i64 0, .int .i64 0]), 2, 16) := by kernel_rfl

set_option maxRecDepth 100000 in
set_option maxHeartbeats 3200000 in
theorem sranges_any {bs : Array Value} {c : Nat → Nat} (hb : BitsOf bs c) (w : World) :
    Calls Try.prog 55 #[.agg bs] w fun e w' => ∃ v rs, e = .returned v ∧ RInv c 16384 rs ∧ w'.ownsRow w.heap.size 94 2 v rs.length (rangeVals rs) ∧ Below w.heap.size w w' := by
  have HBits := Lib.hid hb
  clear hb
  obtain ⟨i0, hi0, hz0, hz1, hz2⟩ := info_parts Try.info94
  go_enter Try.func55, Try.ntmps55
  go_wp2_with fail
  go_loopw [3, 4] (fun v i wr => ∃ (n : Nat) (rs : List (Nat × Nat)), n ≤ 16384 ∧ i = .int .i64 n ∧ RInv c n rs ∧ wr.ownsRow w.heap.size 94 2 v rs.length (rangeVals rs) ∧ (rs = [] → v = .slice none 0 0) ∧ Below w.heap.size w wr ∧ wr.heap[w.heap.size]? = some (.cells bs 24 (0, 0))) (fun _ i _ => 16384 - (intOf i).toNat)
  case atStart => exact ⟨0, [], Nat.zero_le _, rfl, RInv.zero c, World.ownsRow_nil _ _ _ _, fun _ => rfl, (Below.refl _ _).alloc (Nat.le_refl _) _, heap_alloc_new w _⟩
  case round =>
    obtain ⟨n, rs, hn, rfl, hinv, hown, hnil, hbel, hblk⟩ := hrel
    have hlen := hinv.length
    have HO := Lib.hid hown
    have HB := Lib.hid hbel
    have HI := Lib.hid hinv
    have HBlk := Lib.hid hblk
    have hsz := hbel.size
    have hlt0 : w.heap.size < wr.heap.size := by
      rcases Nat.lt_or_ge w.heap.size wr.heap.size with h | h
      · exact h
      · rw [Array.getElem?_eq_none h] at hblk; cases hblk
    by_cases hlt : n < 16384
    · obtain ⟨q, hq⟩ : ∃ q, q = n / 64 := ⟨_, rfl⟩
      obtain ⟨r, hr⟩ : ∃ r, r = n % 64 := ⟨_, rfl⟩
      have hqi : ((n : Int).tdiv 64) = q := by rw [hq]; exact tdiv64 n
      have hri : ((n : Int).tmod 64) = r := by rw [hr]; exact tmod64 n
      have c0 : wr.cell? ⟨w.heap.size, q, none⟩ = some (.int .u64 (c q)) := by
        rw [cell_of_row _ _ _ _ _ _ hblk]
        exact HBits.out.word q (by omega)
      have hki : (0 : Int) ≤ q ∧ (q : Int) < 256 := by omega
      have HS24 : Hid ((Try.prog.info? 24).map (·.size) = some bs.size) := by rw [HBits.out.size]; exact size24
      have HHas := Lib.hid (shas_any HBits.out n hlt wr)
      obtain ⟨x, hx⟩ : ∃ x, x = c q := ⟨_, rfl⟩
      rw [← hx] at c0
      clear hinv hown hbel hblk
      by_cases hA : r = 0 ∧ x = 0
      · obtain ⟨hr0, hx0⟩ := hA
        have hskip : ∀ j, n ≤ j → j < n + 64 → hasBit c j = false := by
          intro j h1 h2
          have e : j / 64 = q := by omega
          unfold hasBit
          rw [e, ← hx, hx0]
          simp
        have HSkip := Lib.hid (HI.out.skip64 hskip)
        have hn64 : n + 64 ≤ 16384 := by omega
        subst hr0 hx0
        clear hq hr hx hskip HHas
        go_wp2
        go_roundw
        case rel => exact ⟨n + 64, rs, hn64, by go_num, HSkip.out, HO.out, hnil, HB.out, HBlk.out⟩
        case measure => simp [intOf]; omega
      · have hcase : r ≠ 0 ∨ (r = 0 ∧ x ≠ 0) := by omega
        clear hq hr hx hA
        cases hbit : hasBit c n with
        | false =>
          rw [hbit] at HHas
          rcases hcase with hc1 | ⟨hc1, hc2⟩
          · go_wp2_with (with_reducible refine wpList_load_row rfl 24 (.tmp 1) rfl w.heap.size rfl 24 bs (0, 0) _ HBlk.out Try.underlying24 rfl HS24.out ?_)
            refine HHas.out.mono ?_
            rintro e w2 ⟨rfl, hb2⟩
            have hblk2 : w2.heap[w.heap.size]? = some (.cells bs 24 (0, 0)) := (hb2.block w.heap.size (by omega)).trans HBlk.out
            have HBlk2 := Lib.hid hblk2
            have HB2 := Lib.hid (HB.out.trans (hb2.mono (by omega)))
            have g2 := hb2.size
            have HO2 := Lib.hid (HO.out.kept (row := none) ⟨hb2.os, hb2.tape, hb2.output, hb2.size, fun k hk _ => hb2.block k hk⟩ (by cases hv : u3.ownBlock <;> simp))
            clear hb2 hblk2
            go_wp2
            go_roundw
            case rel => exact ⟨n + 1, rs, by omega, by go_num, HI.out.skip hbit, HO2.out, hnil, HB2.out, HBlk2.out⟩
            case measure => simp [intOf]; omega
          · subst hc1
            go_wp2_with (with_reducible refine wpList_load_row rfl 24 (.tmp 1) rfl w.heap.size rfl 24 bs (0, 0) _ HBlk.out Try.underlying24 rfl HS24.out ?_)
            refine HHas.out.mono ?_
            rintro e w2 ⟨rfl, hb2⟩
            have hblk2 : w2.heap[w.heap.size]? = some (.cells bs 24 (0, 0)) := (hb2.block w.heap.size (by omega)).trans HBlk.out
            have HBlk2 := Lib.hid hblk2
            have HB2 := Lib.hid (HB.out.trans (hb2.mono (by omega)))
            have g2 := hb2.size
            have HO2 := Lib.hid (HO.out.kept (row := none) ⟨hb2.os, hb2.tape, hb2.output, hb2.size, fun k hk _ => hb2.block k hk⟩ (by cases hv : u3.ownBlock <;> simp))
            clear hb2 hblk2
            go_wp2
            go_roundw
            case rel => exact ⟨n + 1, rs, by omega, by go_num, HI.out.skip hbit, HO2.out, hnil, HB2.out, HBlk2.out⟩
            case measure => simp [intOf]; omega
        | true =>
          rw [hbit] at HHas
          rcases List.eq_nil_or_concat rs with rfl | ⟨rs0, ⟨a, b⟩, rfl⟩
          · have hv := hnil rfl
            subst hv
            rcases hcase with hc1 | ⟨hc1, hc2⟩
            · go_wp2_with (with_reducible refine wpList_load_row rfl 24 (.tmp 1) rfl w.heap.size rfl 24 bs (0, 0) _ HBlk.out Try.underlying24 rfl HS24.out ?_)
              refine HHas.out.mono ?_
              rintro e w2 ⟨rfl, hb2⟩
              have hblk2 : w2.heap[w.heap.size]? = some (.cells bs 24 (0, 0)) := (hb2.block w.heap.size (by omega)).trans HBlk.out
              have HBlk2 := Lib.hid hblk2
              have HB2 := Lib.hid (HB.out.trans (hb2.mono (by omega)))
              have g2 := hb2.size
              have HO2 := Lib.hid (HO.out.kept (row := none) ⟨hb2.os, hb2.tape, hb2.output, hb2.size, fun k hk _ => hb2.block k hk⟩ (by cases hv : (Value.slice none 0 0).ownBlock <;> simp))
              clear hb2 hblk2
              go_wp2_with (at_builtin; refine wpList_append_own _ rfl (.tmp 46) (.tmp 50) 73 rfl w.heap.size 94 i0 _ 2 16 Try.underlying73 hi0 hz0 hz1 hz2 rfl (by decide) _ 0 _ rfl (HO2.out.alloc _) ⟨w2.heap.size, 0, none⟩ 1 1 [.int .i64 n, .int .i64 n] rfl rfl ?c1 ?c2 (by unfold maxLen; omega) (by omega) (by simp; omega) ?_)
              case c1 =>
                intro j u hj
                match j, hj with
                | 0, hj => simp at hj; subst hj; rw [Go.WideShapes.add_plain, cell_of_row _ _ _ _ _ _ (heap_alloc_new w2 _)]; rfl
                | 1, hj => simp at hj; subst hj; rw [Go.WideShapes.add_plain, cell_of_row _ _ _ _ _ _ (heap_alloc_new w2 _)]; rfl
              case c2 => intro u hu; simp at hu; subst hu; rfl
              intro v' w3 hown' hgrow _
              have HO3 := Lib.hid hown'
              have hb3 : Below w.heap.size w w3 := (HB2.out.alloc (by omega) _).grown hgrow (by simp; omega) (fun k hk => (HO2.out.lt k hk).1)
              have hblk3 : w3.heap[w.heap.size]? = some (.cells bs 24 (0, 0)) := by
                rw [hgrow.block w.heap.size (by simp; omega) (fun e => by simp [Value.ownBlock] at e)]
                rw [Below.heap_alloc _ _ _ (by omega)]
                exact HBlk2.out
              clear hown' hgrow
              go_wp2
              go_roundw
              case rel => exact ⟨n + 1, [(n, n)], by omega, by go_num, HI.out.push hbit, by simpa [rangeVals] using HO3.out, fun h => by simp at h, hb3, hblk3⟩
              case measure => simp [intOf]; omega
            · subst hc1
              go_wp2_with (with_reducible refine wpList_load_row rfl 24 (.tmp 1) rfl w.heap.size rfl 24 bs (0, 0) _ HBlk.out Try.underlying24 rfl HS24.out ?_)
              refine HHas.out.mono ?_
              rintro e w2 ⟨rfl, hb2⟩
              have hblk2 : w2.heap[w.heap.size]? = some (.cells bs 24 (0, 0)) := (hb2.block w.heap.size (by omega)).trans HBlk.out
              have HBlk2 := Lib.hid hblk2
              have HB2 := Lib.hid (HB.out.trans (hb2.mono (by omega)))
              have g2 := hb2.size
              have HO2 := Lib.hid (HO.out.kept (row := none) ⟨hb2.os, hb2.tape, hb2.output, hb2.size, fun k hk _ => hb2.block k hk⟩ (by cases hv : (Value.slice none 0 0).ownBlock <;> simp))
              clear hb2 hblk2
              go_wp2_with (at_builtin; refine wpList_append_own _ rfl (.tmp 46) (.tmp 50) 73 rfl w.heap.size 94 i0 _ 2 16 Try.underlying73 hi0 hz0 hz1 hz2 rfl (by decide) _ 0 _ rfl (HO2.out.alloc _) ⟨w2.heap.size, 0, none⟩ 1 1 [.int .i64 n, .int .i64 n] rfl rfl ?c1 ?c2 (by unfold maxLen; omega) (by omega) (by simp; omega) ?_)
              case c1 =>
                intro j u hj
                match j, hj with
                | 0, hj => simp at hj; subst hj; rw [Go.WideShapes.add_plain, cell_of_row _ _ _ _ _ _ (heap_alloc_new w2 _)]; rfl
                | 1, hj => simp at hj; subst hj; rw [Go.WideShapes.add_plain, cell_of_row _ _ _ _ _ _ (heap_alloc_new w2 _)]; rfl
              case c2 => intro u hu; simp at hu; subst hu; rfl
              intro v' w3 hown' hgrow _
              have HO3 := Lib.hid hown'
              have hb3 : Below w.heap.size w w3 := (HB2.out.alloc (by omega) _).grown hgrow (by simp; omega) (fun k hk => (HO2.out.lt k hk).1)
              have hblk3 : w3.heap[w.heap.size]? = some (.cells bs 24 (0, 0)) := by
                rw [hgrow.block w.heap.size (by simp; omega) (fun e => by simp [Value.ownBlock] at e)]
                rw [Below.heap_alloc _ _ _ (by omega)]
                exact HBlk2.out
              clear hown' hgrow
              go_wp2
              go_roundw
              case rel => exact ⟨n + 1, [(n, n)], by omega, by go_num, HI.out.push hbit, by simpa [rangeVals] using HO3.out, fun h => by simp at h, hb3, hblk3⟩
              case measure => simp [intOf]; omega
          · rw [List.concat_eq_append] at *
            obtain ⟨m, hm⟩ : ∃ m, m = rs0.length := ⟨_, rfl⟩
            have hm1 : (rs0 ++ [(a, b)]).length = m + 1 := by simp [hm]
            rw [hm1] at HO hlen
            obtain ⟨gg, cap, rfl⟩ := ownsRow_succ HO.out
            have hgg := HO.out.lt gg rfl
            have hcell : ∀ u : World, u.ownsRow w.heap.size 94 2 (.slice (some ⟨gg, 0, none⟩) (m + 1) cap) (m + 1) (rangeVals (rs0 ++ [(a, b)])) → u.cell? ⟨gg, m * 2 + 1, none⟩ = some (.int .i64 b) := fun u hu => by
              rw [hu.cellAt _ (by omega)]
              exact (rangeVals_get (rs0 ++ [(a, b)]) m (a, b) (by rw [hm]; simp)).2
            have HCell := Lib.hid hcell
            have hgrow : ∀ u : World, u.ownsRow w.heap.size 94 2 (.slice (some ⟨gg, 0, none⟩) (m + 1) cap) (m + 1) ((rangeVals (rs0 ++ [(a, b)])).set (m * 2 + 1) (.int .i64 n)) → u.ownsRow w.heap.size 94 2 (.slice (some ⟨gg, 0, none⟩) (m + 1) cap) (rs0 ++ [(a, n)]).length (rangeVals (rs0 ++ [(a, n)])) := fun u hu => by
              have e := rangeVals_grow rs0 a b n
              rw [← hm] at e
              rw [e] at hu
              have e2 : (rs0 ++ [(a, n)]).length = m + 1 := by simp [hm]
              rw [e2]
              exact hu
            have HGrow := Lib.hid hgrow
            have hggne : gg ≠ w.heap.size := by
              intro e
              rcases HO.out.2 with ⟨h, _⟩ | ⟨g', cap', cur, h, _, hh, _⟩
              · simp at h
              · simp at h
                rw [← h.1, e, HBlk.out] at hh
                simp at hh
            have hgg1 := hgg.1
            have HM := Lib.hid hm
            clear hcell hgrow hgg hm hm1
            by_cases hbn : b + 1 = n
            · have hbnI : (b : Int) = n - 1 := by omega
              rcases hcase with hc1 | ⟨hc1, hc2⟩
              · go_wp2_with (with_reducible refine wpList_load_row rfl 24 (.tmp 1) rfl w.heap.size rfl 24 bs (0, 0) _ HBlk.out Try.underlying24 rfl HS24.out ?_)
                refine HHas.out.mono ?_
                rintro e w2 ⟨rfl, hb2⟩
                have hblk2 : w2.heap[w.heap.size]? = some (.cells bs 24 (0, 0)) := (hb2.block w.heap.size (by omega)).trans HBlk.out
                have HBlk2 := Lib.hid hblk2
                have HB2 := Lib.hid (HB.out.trans (hb2.mono (by omega)))
                have g2 := hb2.size
                have HO2 := Lib.hid (HO.out.kept (row := none) ⟨hb2.os, hb2.tape, hb2.output, hb2.size, fun k hk _ => hb2.block k hk⟩ (by cases hv : (Value.slice (some ⟨gg, 0, none⟩) (m + 1) cap).ownBlock <;> simp))
                clear hb2 hblk2
                have cc := HCell.out w2 HO2.out
                have zz := HO2.out.frozenAt (m * 2 + 1)
                go_wp2
                go_roundw
                case rel =>
                  have hst := HO2.out.stored (m * 2 + 1) (.int .i64 n)
                  exact ⟨n + 1, rs0 ++ [(a, n)], by omega, by go_num, HI.out.grow hbit hbn, HGrow.out _ hst.1, fun h => by simp at h, HB2.out.setCell (by show w.heap.size ≤ gg; omega) _, by rw [Below.heap_setCell _ _ _ _ (by show w.heap.size ≠ gg; omega)]; exact HBlk2.out⟩
                case measure => simp [intOf]; omega
              · subst hc1
                go_wp2_with (with_reducible refine wpList_load_row rfl 24 (.tmp 1) rfl w.heap.size rfl 24 bs (0, 0) _ HBlk.out Try.underlying24 rfl HS24.out ?_)
                refine HHas.out.mono ?_
                rintro e w2 ⟨rfl, hb2⟩
                have hblk2 : w2.heap[w.heap.size]? = some (.cells bs 24 (0, 0)) := (hb2.block w.heap.size (by omega)).trans HBlk.out
                have HBlk2 := Lib.hid hblk2
                have HB2 := Lib.hid (HB.out.trans (hb2.mono (by omega)))
                have g2 := hb2.size
                have HO2 := Lib.hid (HO.out.kept (row := none) ⟨hb2.os, hb2.tape, hb2.output, hb2.size, fun k hk _ => hb2.block k hk⟩ (by cases hv : (Value.slice (some ⟨gg, 0, none⟩) (m + 1) cap).ownBlock <;> simp))
                clear hb2 hblk2
                have cc := HCell.out w2 HO2.out
                have zz := HO2.out.frozenAt (m * 2 + 1)
                go_wp2
                go_roundw
                case rel =>
                  have hst := HO2.out.stored (m * 2 + 1) (.int .i64 n)
                  exact ⟨n + 1, rs0 ++ [(a, n)], by omega, by go_num, HI.out.grow hbit hbn, HGrow.out _ hst.1, fun h => by simp at h, HB2.out.setCell (by show w.heap.size ≤ gg; omega) _, by rw [Below.heap_setCell _ _ _ _ (by show w.heap.size ≠ gg; omega)]; exact HBlk2.out⟩
                case measure => simp [intOf]; omega
            · have hbnI : ¬ (b : Int) = n - 1 := by omega
              rcases hcase with hc1 | ⟨hc1, hc2⟩
              · go_wp2_with (with_reducible refine wpList_load_row rfl 24 (.tmp 1) rfl w.heap.size rfl 24 bs (0, 0) _ HBlk.out Try.underlying24 rfl HS24.out ?_)
                refine HHas.out.mono ?_
                rintro e w2 ⟨rfl, hb2⟩
                have hblk2 : w2.heap[w.heap.size]? = some (.cells bs 24 (0, 0)) := (hb2.block w.heap.size (by omega)).trans HBlk.out
                have HBlk2 := Lib.hid hblk2
                have HB2 := Lib.hid (HB.out.trans (hb2.mono (by omega)))
                have g2 := hb2.size
                have HO2 := Lib.hid (HO.out.kept (row := none) ⟨hb2.os, hb2.tape, hb2.output, hb2.size, fun k hk _ => hb2.block k hk⟩ (by cases hv : (Value.slice (some ⟨gg, 0, none⟩) (m + 1) cap).ownBlock <;> simp))
                clear hb2 hblk2
                have cc := HCell.out w2 HO2.out
                go_wp2_with (at_builtin; refine wpList_append_own _ rfl (.tmp 46) (.tmp 50) 73 rfl w.heap.size 94 i0 _ 2 16 Try.underlying73 hi0 hz0 hz1 hz2 rfl (by decide) _ (m + 1) _ rfl (HO2.out.alloc _) ⟨w2.heap.size, 0, none⟩ 1 1 [.int .i64 n, .int .i64 n] rfl rfl ?c1 ?c2 (by unfold maxLen; omega) (by omega) (by simp; omega) ?_)
                case c1 =>
                  intro j u hj
                  match j, hj with
                  | 0, hj => simp at hj; subst hj; rw [Go.WideShapes.add_plain, cell_of_row _ _ _ _ _ _ (heap_alloc_new w2 _)]; rfl
                  | 1, hj => simp at hj; subst hj; rw [Go.WideShapes.add_plain, cell_of_row _ _ _ _ _ _ (heap_alloc_new w2 _)]; rfl
                case c2 => intro u hu; simp at hu; subst hu; rfl
                intro v' w3 hown' hgrow _
                have HO3 := Lib.hid hown'
                have hb3 : Below w.heap.size w w3 := (HB2.out.alloc (by omega) _).grown hgrow (by simp; omega) (fun k hk => (HO2.out.lt k hk).1)
                have hblk3 : w3.heap[w.heap.size]? = some (.cells bs 24 (0, 0)) := by
                  rw [hgrow.block w.heap.size (by simp; omega) (fun e => by simp [Value.ownBlock] at e; omega)]
                  rw [Below.heap_alloc _ _ _ (by omega)]
                  exact HBlk2.out
                clear hown' hgrow
                go_wp2
                go_roundw
                case rel => exact ⟨n + 1, rs0 ++ [(a, b)] ++ [(n, n)], by omega, by go_num, HI.out.push hbit, by have hh := HO3.out; rw [HM.out] at hh; simpa [rangeVals] using hh, fun h => by simp at h, hb3, hblk3⟩
                case measure => simp [intOf]; omega
              · subst hc1
                go_wp2_with (with_reducible refine wpList_load_row rfl 24 (.tmp 1) rfl w.heap.size rfl 24 bs (0, 0) _ HBlk.out Try.underlying24 rfl HS24.out ?_)
                refine HHas.out.mono ?_
                rintro e w2 ⟨rfl, hb2⟩
                have hblk2 : w2.heap[w.heap.size]? = some (.cells bs 24 (0, 0)) := (hb2.block w.heap.size (by omega)).trans HBlk.out
                have HBlk2 := Lib.hid hblk2
                have HB2 := Lib.hid (HB.out.trans (hb2.mono (by omega)))
                have g2 := hb2.size
                have HO2 := Lib.hid (HO.out.kept (row := none) ⟨hb2.os, hb2.tape, hb2.output, hb2.size, fun k hk _ => hb2.block k hk⟩ (by cases hv : (Value.slice (some ⟨gg, 0, none⟩) (m + 1) cap).ownBlock <;> simp))
                clear hb2 hblk2
                have cc := HCell.out w2 HO2.out
                go_wp2_with (at_builtin; refine wpList_append_own _ rfl (.tmp 46) (.tmp 50) 73 rfl w.heap.size 94 i0 _ 2 16 Try.underlying73 hi0 hz0 hz1 hz2 rfl (by decide) _ (m + 1) _ rfl (HO2.out.alloc _) ⟨w2.heap.size, 0, none⟩ 1 1 [.int .i64 n, .int .i64 n] rfl rfl ?c1 ?c2 (by unfold maxLen; omega) (by omega) (by simp; omega) ?_)
                case c1 =>
                  intro j u hj
                  match j, hj with
                  | 0, hj => simp at hj; subst hj; rw [Go.WideShapes.add_plain, cell_of_row _ _ _ _ _ _ (heap_alloc_new w2 _)]; rfl
                  | 1, hj => simp at hj; subst hj; rw [Go.WideShapes.add_plain, cell_of_row _ _ _ _ _ _ (heap_alloc_new w2 _)]; rfl
                case c2 => intro u hu; simp at hu; subst hu; rfl
                intro v' w3 hown' hgrow _
                have HO3 := Lib.hid hown'
                have hb3 : Below w.heap.size w w3 := (HB2.out.alloc (by omega) _).grown hgrow (by simp; omega) (fun k hk => (HO2.out.lt k hk).1)
                have hblk3 : w3.heap[w.heap.size]? = some (.cells bs 24 (0, 0)) := by
                  rw [hgrow.block w.heap.size (by simp; omega) (fun e => by simp [Value.ownBlock] at e; omega)]
                  rw [Below.heap_alloc _ _ _ (by omega)]
                  exact HBlk2.out
                clear hown' hgrow
                go_wp2
                go_roundw
                case rel => exact ⟨n + 1, rs0 ++ [(a, b)] ++ [(n, n)], by omega, by go_num, HI.out.push hbit, by have hh := HO3.out; rw [HM.out] at hh; simpa [rangeVals] using hh, fun h => by simp at h, hb3, hblk3⟩
                case measure => simp [intOf]; omega
    · have hne : n = 16384 := by omega
      subst hne
      clear hinv hown hbel hblk
      go_wp2
      go_ret
      exact ⟨_, rs, rfl, HI.out, HO.out, HB.out⟩
end Go.Proofs.Ytlccbgjlinlioaa
