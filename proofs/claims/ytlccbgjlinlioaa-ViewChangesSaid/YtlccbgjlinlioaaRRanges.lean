/- The walk of the document's Ranges: it ends, with a row. -/
import Derived.Test.YtlccbgjlinlioaaSlots
namespace Go.Proofs.Ytlccbgjlinlioaa
open Go.RowKit

theorem IntsAt.grown {u u' : World} {B : Nat} {v : Value} {l : List Nat} {row : Option Nat} (h : IntsAt u B v l) (hb : u.grownBy u' row) (hr : ∀ k, v.ownBlock = some k → row ≠ some k) : IntsAt u' B v l := by
  refine ⟨h.1, ?_⟩
  rcases h.2 with hn | ⟨g, cap, cur, rfl, hg, hh, rest⟩
  · exact .inl hn
  · refine .inr ⟨g, cap, cur, rfl, hg, (hb.block g ?_ (fun e => hr g rfl e.symm)).trans hh, rest⟩
    rcases Nat.lt_or_ge g u.heap.size with hl | hl
    · exact hl
    · rw [Array.getElem?_eq_none hl] at hh; cases hh

/-- where Ranges stands -/
structure RgW (w : World) (Z : Nat) (vl : Value) (l : List Nat) (v : Value) (rs : List (Nat × Nat)) (u : World) : Prop where
  below : Below w.heap.size w u
  ints : IntsAt u (w.heap.size + 1) vl l
  blk : ∀ k, vl.ownBlock = some k → k < Z
  row : u.ownsRow Z 94 2 v rs.length (rangeVals rs)
  size : Z ≤ u.heap.size
  base : w.heap.size ≤ Z
theorem RgW.drew {w : World} {Z : Nat} {vl : Value} {l : List Nat} {v : Value} {rs : List (Nat × Nat)} {u : World} (h : RgW w Z vl l v rs u) : RgW w Z vl l v rs u.drew :=
  ⟨below_drewN h.below 1, h.ints, h.blk, h.row, h.size, h.base⟩
theorem RgW.drewN {w : World} {Z : Nat} {vl : Value} {l : List Nat} {v : Value} {rs : List (Nat × Nat)} {u : World} (h : RgW w Z vl l v rs u) (k : Nat) : RgW w Z vl l v rs (u.drewN k) :=
  ⟨below_drewN h.below k, h.ints, h.blk, h.row, h.size, h.base⟩
theorem ownsRow_below {u u' : World} {B : Nat} {e : TypeId} {sz n : Nat} {v : Value} {xs : List Value} (h : u.ownsRow B e sz v n xs) (hb : Below u.heap.size u u') : u'.ownsRow B e sz v n xs := by
  refine ⟨h.1, ?_⟩
  rcases h.2 with hn | ⟨g, cap, cur, rfl, hg, hh, rest⟩
  · exact .inl hn
  · refine .inr ⟨g, cap, cur, rfl, hg, (hb.block g ?_).trans hh, rest⟩
    rcases Nat.lt_or_ge g u.heap.size with hl | hl
    · exact hl
    · rw [Array.getElem?_eq_none hl] at hh; cases hh
theorem RgW.belowW {w : World} {Z : Nat} {vl : Value} {l : List Nat} {v : Value} {rs : List (Nat × Nat)} {u u' : World} (h : RgW w Z vl l v rs u) (hb : Below u.heap.size u u') : RgW w Z vl l v rs u' :=
  ⟨h.below.trans (hb.mono h.below.size), h.ints.below hb, h.blk, ownsRow_below h.row hb, Nat.le_trans h.size hb.size, h.base⟩
theorem RgW.push {w : World} {Z : Nat} {vl : Value} {l : List Nat} {v v' : Value} {rs : List (Nat × Nat)} {u u' : World} (h : RgW w Z vl l v rs u) (hb : u.grownBy u' v.ownBlock) {rs' : List (Nat × Nat)} (hr : u'.ownsRow Z 94 2 v' rs'.length (rangeVals rs')) : RgW w Z vl l v' rs' u' := by
  refine ⟨h.below.grown hb h.below.size (fun k hk => ?_), h.ints.grown hb (fun k hk e => ?_), h.blk, hr, Nat.le_trans h.size hb.size, h.base⟩
  · have := (World.ownsRow.lt h.row k hk).1
    have := h.base
    omega
  · have h1 := (World.ownsRow.lt h.row k e).1
    have h2 := h.blk k hk
    omega

theorem under73 : Try.prog.underlying 73 = some (.slice 94) := by kernel_rfl
theorem run_buildSlice73 (a b : Int) (u : World) : (Instr.buildSlice 73 1 #[(0, .agg #[.int .i64 a, .int .i64 b])]).run Try.prog u = .ok (.slice (some ⟨u.heap.size, 0, none⟩) 1 1) (u.alloc (.cells #[.int .i64 a, .int .i64 b] 94)) := by kernel_rfl
theorem build94 (a b : Int) : Try.prog.built 94 [(0, .int .i64 a), (1, .int .i64 b)] = some #[.int .i64 a, .int .i64 b] := by kernel_rfl

theorem wp_buildSlice73 {o : Oper} {a : Act} {w : World} {K : Act → World → Prop} {Q : Exit → Act → World → Prop} (x : Operand) (ho : o.op = .buildSlice 73 1 #[(0, x)]) (m n : Int) (hx : a.eval x = .agg #[.int .i64 m, .int .i64 n])
    (h : K (a.put o.dst (.slice (some ⟨w.heap.size, 0, none⟩) 1 1)) (w.alloc (.cells #[.int .i64 m, .int .i64 n] 94))) : o.wp Try.prog a w K Q := by
  unfold Oper.wp execOp
  simp only [ho, List.map_toArray, List.map_cons, List.map_nil, hx, Sem.run_bind, run_buildSlice73, Result.andThen_ok, Sem.run_pure]
  exact h
theorem wp_buildSlice73d {o : Oper} {a : Act} {w : World} {K : Act → World → Prop} {Q : Exit → Act → World → Prop} (d : Tmp) (hd : o.dst = some d) (x : Operand) (ho : o.op = .buildSlice 73 1 #[(0, x)]) (m n : Int) (hx : a.eval x = .agg #[.int .i64 m, .int .i64 n])
    (h : K { tmps := a.tmps.setIfInBounds d (.slice (some ⟨w.heap.size, 0, none⟩) 1 1), defers := a.defers } (w.alloc (.cells #[.int .i64 m, .int .i64 n] 94))) : o.wp Try.prog a w K Q := by
  refine wp_buildSlice73 x ho m n hx ?_
  rw [hd]
  exact h

theorem wp_append73d {o : Oper} {a : Act} {w : World} {K : Act → World → Prop} {Q : Exit → Act → World → Prop} (d : Tmp) (hd : o.dst = some d) (sl x : Operand) (ho : o.op = .call { callee := .builtin .append, args := #[sl, x], argTypes := #[73, 73] })
    (Z : Nat) (v : Value) (rs : List (Nat × Nat)) (hs : a.eval sl = v) (h : w.ownsRow Z 94 2 v rs.length (rangeVals rs)) (hl : rs.length ≤ 100000) (hZ : Z ≤ w.heap.size) (b : Nat) (r : Nat × Nat) (hx : a.eval x = .slice (some ⟨b, 0, none⟩) 1 1) (hb : w.heap[b]? = some (.cells #[.int .i64 (r.1 : Int), .int .i64 (r.2 : Int)] 94 (0, 0)))
    (hk : ∀ v' w', w'.ownsRow Z 94 2 v' (rs ++ [r]).length (rangeVals (rs ++ [r])) → w.grownBy w' v.ownBlock → K { tmps := a.tmps.setIfInBounds d v', defers := a.defers } w') : o.wp Try.prog a w K Q := by
  obtain ⟨i0, hi0, hz0, hz1, hz2⟩ := info_parts Try.info94
  refine wp_append_own _ sl x 73 ho Z 94 i0 _ 2 16 under73 hi0 hz0 hz1 hz2 rfl (by decide) _ rs.length _ hs h ⟨b, 0, none⟩ 1 1 [.int .i64 (r.1 : Int), .int .i64 (r.2 : Int)] hx rfl ?c1 ?c2 (by unfold maxLen; omega) (by omega) hZ ?_
  case c1 =>
    intro j u hj
    match j, hj with
    | 0, hj => simp at hj; subst hj; rw [Go.WideShapes.add_plain, cell_of_row _ _ _ _ _ _ hb]; rfl
    | 1, hj => simp at hj; subst hj; rw [Go.WideShapes.add_plain, cell_of_row _ _ _ _ _ _ hb]; rfl
  case c2 => intro u hu; simp at hu; rcases hu with rfl | rfl <;> rfl
  intro v' w' h1 h2 _
  rw [hd]
  refine hk v' w' ?_ h2
  rw [rangeVals_append, List.length_append]
  exact h1

set_option maxRecDepth 100000 in
set_option maxHeartbeats 1600000 in
theorem ranges_any {c : Nat → Nat} (hc : ∀ i, c i < 18446744073709551616) (w : World) :
    Calls Try.prog 30 #[.agg (wordsArr c)] w fun e w' => ∃ sp n cap, e = .returned (.slice sp n cap) ∧ Below w.heap.size w w' := by
  have HSl := Lib.hid fun (u : World) => slots_any hc u
  have hblk : (w.alloc (.cells (wordsArr c) 24)).heap[w.heap.size]? = some (.cells (wordsArr c) 24 (0, 0)) := heap_alloc_new w _
  have HBlk := Lib.hid hblk
  have HS24 : Hid ((Try.prog.info? 24).map (·.size) = some (wordsArr c).size) := by rw [wordsArr_size]; exact size24
  have HBel : Hid (Below w.heap.size w (w.alloc (.cells (wordsArr c) 24))) := (Below.refl _ _).alloc (Nat.le_refl _) _
  have HSz : Hid ((w.alloc (.cells (wordsArr c) 24)).heap.size = w.heap.size + 1)  := by show _ = _; simp
  generalize wordsArr c = bs at *
  have hbnd : ∀ i k : Nat, (slotsTo c 16384)[i]? = some k → k < 16384 := fun i k h => List.mem_range.1 (List.mem_filter.1 (List.mem_of_getElem? h)).1
  have HBnd := Lib.hid hbnd
  have HLen : Hid ((slotsTo c 16384).length ≤ 16384) := by
    show _ ≤ _
    have := List.length_filter_le (hasBit c) (List.range 16384)
    simpa [slotsTo] using this
  generalize slotsTo c 16384 = l at *
  clear hblk hbnd hc
  go_enter Try.func30, Try.ntmps30
  go_wp2_with (with_reducible refine wpList_load_row rfl 24 (.tmp 1) rfl w.heap.size rfl 24 bs (0, 0) _ HBlk.out Try.underlying24 rfl HS24.out ?_)
  refine (HSl.out _).mono ?_
  rintro e w2 ⟨vl, rfl, hi2, hb2⟩
  rw [HSz.out] at hi2 hb2
  obtain ⟨n, hn⟩ : ∃ n, n = l.length := ⟨_, rfl⟩
  have HN := Lib.hid hn
  have hn2 : n ≤ 16384 := by rw [hn]; exact HLen.out
  have hw0 : Hid (RgW w w2.heap.size vl l (.slice none 0 0) [] w2) := ⟨HBel.out.trans (hb2.mono (by omega)), hi2, fun k hk => (World.ownsRow.lt hi2 k hk).2, World.ownsRow_nil _ _ _ _, Nat.le_refl _, by have := hb2.size; have := HSz.out; omega⟩
  obtain ⟨sp, cap, rfl, hsp⟩ := own_form hi2
  rw [← hn] at hw0 hsp ⊢
  have HSp := Lib.hid hsp
  clear hi2 hb2 hn hsp
  go_wp2_with fail
  generalize w2.heap.size = Z at *
  go_loopw [3, 5] (fun v i wr => ∃ (m : Nat) (rs : List (Nat × Nat)), m ≤ n ∧ i = .int .i64 m ∧ rs.length ≤ m ∧ RgW w Z (.slice sp n cap) l v rs wr) (fun _ i _ => n - (intOf i).toNat)
  case atStart => exact ⟨0, [], Nat.zero_le _, rfl, Nat.le_refl _, hw0.out⟩
  case round =>
    obtain ⟨m, rs, hm, rfl, hrs, hs⟩ := hrel
    have HSm := Lib.hid hs
    clear hs
    by_cases hlt : m < n
    · obtain ⟨gl, rfl⟩ := HSp.out (by omega)
      go_wp2_with fail
      generalize wr = wo at *
      go_loopw [6] (fun c6 wx => ∃ k : Nat, m ≤ k ∧ k < n ∧ c6 = .int .i64 k ∧ RgW w Z (.slice (some ⟨gl, 0, none⟩) n cap) l u3 rs wx) (fun c6 _ => n - (intOf c6).toNat)
      case atStart => exact ⟨m, Nat.le_refl _, hlt, rfl, HSm.out⟩
      case round =>
        obtain ⟨k, hmk, hkn, rfl, hs⟩ := hrel
        have HSk := Lib.hid hs
        clear hs
        obtain ⟨b, hb⟩ : ∃ b, l[k]? = some b := ⟨_, List.getElem?_eq_getElem (by rw [← HN.out]; exact hkn)⟩
        have hbl := HBnd.out k b hb
        have e0 : wr.cell? ⟨gl, k, none⟩ = some (.int .i64 (b : Int)) := HSk.out.ints.cell k b hb
        have HB := Lib.hid hb
        have hki : (0 : Int) ≤ (k : Int) ∧ (k : Int) < n := by omega
        clear hb
        go_upto_region 6 with fail
        go_cut [31] from 14 to 33 (fun v wx => ∃ bb : Bool, v = .bool bb ∧ (bb = true → k + 1 < n) ∧ RgW w Z (.slice (some ⟨gl, 0, none⟩) n cap) l u3 rs wx)
        case first =>
          by_cases hk1 : k + 1 < n
          · obtain ⟨a, ha⟩ : ∃ a, l[k + 1]? = some a := ⟨_, List.getElem?_eq_getElem (by rw [← HN.out]; exact hk1)⟩
            have hal := HBnd.out (k + 1) a ha
            have e1 : wr.cell? ⟨gl, k + 1, none⟩ = some (.int .i64 (a : Int)) := HSk.out.ints.cell (k + 1) a ha
            have hki1 : (0 : Int) ≤ ((k : Int) + 1) ∧ ((k : Int) + 1) < n := by omega
            have hkd : decide ((k : Int) + 1 < n) = true := decide_eq_true hki1.2
            clear ha
            go_wp2_with fail
            go_quiet (fail)
            go_wp2
            go_meet
            exact ⟨_, rfl, fun _ => hk1, HSk.out.drewN _⟩
          · have hkd : decide ((k : Int) + 1 < n) = false := decide_eq_false (by omega)
            go_wp2_with fail
            go_quiet (fail)
            go_wp2
            go_meet
            exact ⟨_, rfl, fun h => absurd h (by decide), HSk.out.drewN _⟩
        case rest =>
          obtain ⟨bb, rfl, hbb, hs⟩ := hcut
          have HSj := Lib.hid hs
          have HBb := Lib.hid hbb
          clear hs hbb
          cases bb with
          | true =>
            have hk1 := HBb.out rfl
            go_wp2
            go_roundw
            case rel => exact ⟨k + 1, by omega, hk1, by go_num, HSj.out⟩
            case measure => simp [intOf]; omega
          | false =>
            obtain ⟨a, ha⟩ : ∃ a, l[m]? = some a := ⟨_, List.getElem?_eq_getElem (by rw [← HN.out]; exact hlt)⟩
            have HCells : Hid (∀ u v' rs', RgW w Z (.slice (some ⟨gl, 0, none⟩) n cap) l v' rs' u → u.cell? ⟨gl, m, none⟩ = some (.int .i64 (a : Int)) ∧ u.cell? ⟨gl, k, none⟩ = some (.int .i64 (b : Int))) := fun u v' rs' hu => ⟨hu.ints.cell m a ha, hu.ints.cell k b HB.out⟩
            have hmi : (0 : Int) ≤ (m : Int) ∧ (m : Int) < n := by omega
            have HSD := Lib.hid HSj.out.drew
            clear ha e0
            go_wp2_with fail
            refine wp_region_held_drew (S := (fun u => u.cell? ⟨gl, m, none⟩ = some (.int .i64 (a : Int)) ∧ u.cell? ⟨gl, k, none⟩ = some (.int .i64 (b : Int)))) (by kernel_rfl) (HCells.out _ _ _ HSD.out) (fun hHeld => ?_)
            refine held_take 0 34 rfl (by kernel_rfl) (by kernel_rfl) (by kernel_rfl) rfl rfl (fun _ _ _ h => h) (by assumption) (v := ?_) (fun u hSw => ?_) ?_
            rotate_left
            · (try dsimp only at hSw)
              go_simp
              try with_reducible rfl
            simp only [List.setIfInBounds_toArray, List.set_cons_zero, List.set_cons_succ]
            refine held_take 1 35 rfl (by kernel_rfl) (by kernel_rfl) (by kernel_rfl) rfl rfl (fun _ _ _ h => h) (by assumption) (v := ?_) (fun u hSw => ?_) ?_
            rotate_left
            · (try dsimp only at hSw)
              go_simp
              try with_reducible rfl
            simp only [List.setIfInBounds_toArray, List.set_cons_zero, List.set_cons_succ]
            refine held_take 2 36 rfl (by kernel_rfl) (by kernel_rfl) (by kernel_rfl) rfl rfl (fun _ _ _ h => h) (by assumption) (v := ?_) (fun u hSw => ?_) ?_
            rotate_left
            · (try dsimp only at hSw)
              go_simp
              try with_reducible rfl
            simp only [List.setIfInBounds_toArray, List.set_cons_zero, List.set_cons_succ]
            refine held_take 3 37 rfl (by kernel_rfl) (by kernel_rfl) (by kernel_rfl) rfl rfl (fun _ _ _ h => h) (by assumption) (v := ?_) (fun u hSw => ?_) ?_
            rotate_left
            · (try dsimp only at hSw)
              go_simp
              try with_reducible rfl
            simp only [List.setIfInBounds_toArray, List.set_cons_zero, List.set_cons_succ]
            refine held_take 4 38 rfl (by kernel_rfl) (by kernel_rfl) (by kernel_rfl) rfl rfl (fun _ _ _ h => h) (by assumption) (v := ?_) (fun u hSw => ?_) ?_
            rotate_left
            · (try dsimp only at hSw)
              go_simp
              try with_reducible rfl
            simp only [List.setIfInBounds_toArray, List.set_cons_zero, List.set_cons_succ]
            refine held_take 5 39 rfl (by kernel_rfl) (by kernel_rfl) (by kernel_rfl) rfl rfl (fun _ _ _ h => h) (by assumption) (v := ?_) (fun u hSw => ?_) ?_
            rotate_left
            · (try dsimp only at hSw)
              go_simp
              try with_reducible rfl
            simp only [List.setIfInBounds_toArray, List.set_cons_zero, List.set_cons_succ]
            refine held_take 6 40 rfl (by kernel_rfl) (by kernel_rfl) (by kernel_rfl) rfl rfl (fun _ _ _ h => h) (by assumption) (v := ?_) (fun u hSw => ?_) ?_
            rotate_left
            · (try dsimp only at hSw)
              go_simp
              try with_reducible rfl
            simp only [List.setIfInBounds_toArray, List.set_cons_zero, List.set_cons_succ]
            refine held_take 7 41 rfl (by kernel_rfl) (by kernel_rfl) (by kernel_rfl) rfl rfl (fun _ _ _ h => h) (by assumption) (v := ?_) (fun u hSw => ?_) ?_
            rotate_left
            · (try dsimp only at hSw)
              go_simp
              try with_reducible rfl
            simp only [List.setIfInBounds_toArray, List.set_cons_zero, List.set_cons_succ]
            refine held_take 8 42 rfl (by kernel_rfl) (by kernel_rfl) (by kernel_rfl) rfl rfl (fun _ _ _ h => h) (by assumption) (v := ?_) (fun u hSw => ?_) ?_
            rotate_left
            · (try dsimp only at hSw)
              go_simp
              try with_reducible rfl
            simp only [List.setIfInBounds_toArray, List.set_cons_zero, List.set_cons_succ]
            refine held_take 9 43 rfl (by kernel_rfl) (by kernel_rfl) (by kernel_rfl) rfl rfl (fun _ _ _ h => h) (by assumption) (v := .agg #[.int .i64 (a : Int), .int .i64 (b : Int)]) (fun u hSw => exec_build 94 #[(0, .tmp 38), (1, .tmp 42)] rfl [(0, .int .i64 (a : Int)), (1, .int .i64 (b : Int))] (by simp [Act.eval]) _ (build94 _ _)) ?_
            simp only [List.setIfInBounds_toArray, List.set_cons_zero, List.set_cons_succ]
            have hwc := HSD.out.size
            have hzb := HSD.out.base
            generalize wc.drew = we at *
            have hbA : Below we.heap.size we (we.alloc (.cells #[.int .i64 (a : Int), .int .i64 (b : Int)] 94)) := (Below.refl _ _).alloc (Nat.le_refl _) _
            have HSf := Lib.hid (HSD.out.belowW hbA)
            have HBlk2 := Lib.hid (heap_alloc_new we (.cells #[.int .i64 (a : Int), .int .i64 (b : Int)] 94))
            refine held_do 10 rfl (by kernel_rfl) rfl (fun K hK => ?_)
            refine wp_buildSlice73d 44 rfl (.tmp 43) rfl _ _ rfl ?_
            refine hK _ _ (HCells.out _ _ _ HSf.out) ?_
            clear hK hHeld hbA
            simp only [List.setIfInBounds_toArray, List.set_cons_zero, List.set_cons_succ]
            refine held_do 11 rfl (by kernel_rfl) rfl (fun K hK => ?_)
            refine wp_append73d 45 rfl (.tmp 34) (.tmp 44) rfl Z _ rs rfl HSf.out.row (by omega) (by simp; omega) we.heap.size (a, b) rfl HBlk2.out ?_
            intro v7 w7 hr7 hg7
            have hst : RgW w Z (.slice (some ⟨gl, 0, none⟩) n cap) l v7 (rs ++ [(a, b)]) w7 := HSf.out.push hg7 hr7
            have HSt := Lib.hid hst
            refine hK _ _ (HCells.out _ _ _ HSt.out) ?_
            have hHeld : (fun u : World => u.cell? ⟨gl, m, none⟩ = some (.int .i64 (a : Int)) ∧ u.cell? ⟨gl, k, none⟩ = some (.int .i64 (b : Int))) w7 := HCells.out _ _ _ HSt.out
            clear hK hr7 hg7 hst
            simp only [List.setIfInBounds_toArray, List.set_cons_zero, List.set_cons_succ]
            refine held_take 12 3 rfl (by kernel_rfl) (by kernel_rfl) (by kernel_rfl) rfl rfl (fun _ _ _ h => h) (by assumption) (v := ?_) (fun u hSw => ?_) ?_
            rotate_left
            · (try dsimp only at hSw)
              go_simp
              try with_reducible rfl
            simp only [List.setIfInBounds_toArray, List.set_cons_zero, List.set_cons_succ]
            refine wpAnyH_done (by kernel_rfl) ?_ _
            clear hHeld
            go_wp2
            go_roundw
            case rel => exact ⟨k + 1, rs ++ [(a, b)], by omega, by go_num, by simp; omega, HSt.out⟩
            case measure => simp [intOf]; omega
    · have hmn : m = n := by omega
      subst hmn
      obtain ⟨sp', cap', rfl, _⟩ := own_form HSm.out.row
      go_wp2
      go_ret
      exact ⟨sp', rs.length, cap', rfl, HSm.out.below⟩
end Go.Proofs.Ytlccbgjlinlioaa
