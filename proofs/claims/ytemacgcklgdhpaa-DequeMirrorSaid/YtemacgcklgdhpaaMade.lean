/- The walks of New, Clone and Trim: a deque is made, copied, laid anew. -/
import Derived.Test.YtemacgcklgdhpaaRange
import Derived.Laws.CopyOwn
namespace Go.Proofs.Ytemacgcklgdhpaa
open Go.RowKit

set_option maxRecDepth 100000 in
theorem zero48 (w : World) : (zeroValue 48).run Try.prog w = .ok (.agg (trimmed [])) w := by kernel_rfl
set_option maxRecDepth 100000 in
theorem zero46 (w : World) : (zeroValue 46).run Try.prog w = .ok (.agg (List.replicate 256 (Value.string emptyS)).toArray) w := by kernel_rfl

set_option maxRecDepth 100000 in
theorem new_walk (w : World) : Calls Try.prog 9 #[] w fun e w' => e = .returned (.pointer (some ⟨w.heap.size, 0, none⟩)) ∧ w.alloc (.cells (trimmed []) 48) = w' := by
  have hz := zero48
  generalize trimmed [] = T at *
  go_enter Try.func9, Try.ntmps9
  go_wp2
  go_ret
  exact ⟨rfl, rfl⟩

theorem size48 : (Try.prog.info? 48).map (·.size) = some 258 := by kernel_rfl
theorem size46 : (Try.prog.info? 46).map (·.size) = some 256 := by kernel_rfl

set_option maxRecDepth 100000 in
theorem clone_walk (g : Nat) (cs : Array Value) (w : World) (hg : w.heap[g]? = some (.cells cs 48 (0, 0))) (hs : cs.size = 258) (h1 : cs.all (·.oneCell') = true) :
    Calls Try.prog 19 #[.pointer (some ⟨g, 0, none⟩)] w fun e w' => e = .returned (.pointer (some ⟨w.heap.size, 0, none⟩)) ∧ (w.alloc (.cells (trimmed []) 48)).setRow w.heap.size cs = w' := by
  have HG := Lib.hid hg
  have HS : Hid ((Try.prog.info? 48).map (·.size) = some cs.size) := by rw [hs]; exact size48
  have hz := zero48
  have hT := (Ring.trimmed [] (by simp)).size
  generalize trimmed [] = T at *
  have HT : Hid (T.size = cs.size) := by rw [hT, hs]; exact rfl
  have H1 := Lib.hid h1
  clear hg hs h1 hT
  go_enter Try.func19, Try.ntmps19
  go_wp2_with (first
    | (with_reducible refine wpList_load_row rfl 48 (.tmp 5) rfl g rfl 48 cs (0, 0) _ HG.out Try.underlying48 rfl HS.out ?_)
    | (with_reducible refine wpList_store_row rfl 48 (.tmp 3) (.tmp 6) rfl w.heap.size cs rfl rfl 48 T (heap_alloc_new w _) HS.out HT.out H1.out ?_))
  go_ret
  exact ⟨rfl, rfl⟩

theorem run_storeVar_part {P : Program} (w : World) (g o : Nat) (t ty : TypeId) (cur cells : Array Value) (hg : w.heap[g]? = some (.cells cur t (0, 0))) (hl : o + cells.size ≤ cur.size) (hi : (P.info? ty).map (·.size) = some cells.size) (h1 : cells.all (·.oneCell') = true) :
    (storeVar ty ⟨g, o, none⟩ (.agg cells)).run P w = .ok () (w.setRow g (cur.toList.take o ++ cells.toList ++ cur.toList.drop (o + cells.size)).toArray) := by
  have := run_storeCells_at (P := P) g o t cells.toList 0 cur w hg (by simpa using hl) (fun v hv => (Array.all_eq_true_iff_forall_mem.1 h1) v (by simpa using hv))
  cases hq : P.info? ty with
  | none => simp [hq] at hi
  | some i =>
    have hs : cells.size = i.size := by simp [hq] at hi; omega
    simp only [Nat.add_zero, Array.length_toList] at this
    simp [storeVar, sizeOf, typeInfo, hq, Value.cells, hs, this]

theorem wpList_store_part {P : Program} {ops : Array Oper} {rest : List Oper} {op : Oper} {a : Act} {w : World} {Q : Exit → Act → World → Prop} (hgd : op.guard = none) (ty : TypeId) (x y : Operand) (ho : op.op = .store ty x y)
    (g o : Nat) (cells : Array Value) (hx : a.eval x = .pointer (some ⟨g, o, none⟩)) (hy : a.eval y = .agg cells) (t : TypeId) (cur : Array Value)
    (hg : w.heap[g]? = some (.cells cur t (0, 0))) (hl : o + cells.size ≤ cur.size) (hi : (P.info? ty).map (·.size) = some cells.size) (h1 : cells.all (·.oneCell') = true)
    (R : Array Value) (hR : (cur.toList.take o ++ cells.toList ++ cur.toList.drop (o + cells.size)).toArray = R)
    (h : ∀ w', w'.heap[g]? = some (.cells R t (0, 0)) → w.grownBy w' (some g) → wpList P ops Q rest (a.put op.dst undef) w') : wpList P ops Q (op :: rest) a w :=
  wpList_plain hgd fun _ hK => by
    subst hR
    unfold Oper.wp execOp
    simp only [ho, hx, hy, Instr.storeAt, Instr.sureAddr, Sem.run_bind, Sem.run_pure, Result.andThen_ok, run_storeVar_part w g o t ty cur cells hg hl hi h1]
    exact hK _ _ (h _ (setRow_heap w g _ _ t _ hg) ⟨rfl, rfl, rfl, by simp [World.setRow], fun k _ hk => setRow_other w g k _ (fun e => hk (by rw [e]))⟩)

theorem StrsAt.shape {w : World} {v : Value} {l : List ByteArray} (h : StrsAt w v l) : ∃ sp cap, v = .slice sp l.length cap ∧ (0 < l.length → ∃ ad, sp = some ad ∧ ∀ j u, (strVals l)[j]? = some u → w.cell? (ad.add j) = some u) := by
  rcases h with ⟨rfl, rfl | ⟨ad, cap, rfl⟩⟩ | ⟨b, off, cap, rfl, _, _, hc⟩
  · exact ⟨_, _, rfl, fun h => by simp at h⟩
  · exact ⟨_, _, rfl, fun h => by simp at h⟩
  · refine ⟨_, _, rfl, fun _ => ⟨_, rfl, fun j u hj => ?_⟩⟩
    have hj' : j < l.length := by have := (List.getElem?_eq_some_iff.1 hj).1; simpa [strVals] using this
    rw [Go.WideShapes.add_plain, hc j hj', ← hj]
    simp [strVals, List.getElem?_eq_getElem hj']

/-- the ring laid anew -/
theorem trim_cells (cs : Array Value) (L : List ByteArray) (hs : cs.size = 258) (hL : L.length ≤ 256) :
    (((cs.toList.take 0 ++ (splice (List.replicate 256 (Value.string emptyS)) 0 (strVals L)).toArray.toList ++ cs.toList.drop (0 + (splice (List.replicate 256 (Value.string emptyS)) 0 (strVals L)).toArray.size)).toArray.setIfInBounds 256 (.int .i64 0)).setIfInBounds 257 (.int .i64 L.length)) = trimmed L := by
  have hsp : (splice (List.replicate 256 (Value.string emptyS)) 0 (strVals L)).length = 256 := by
    rw [length_splice _ _ _ (by rw [List.length_replicate]; simp only [strVals, List.length_map]; omega)]; exact List.length_replicate
  have hsp2 : splice (List.replicate 256 (Value.string emptyS)) 0 (strVals L) = L.map Value.string ++ List.replicate (256 - L.length) (.string emptyS) := by
    unfold splice strVals
    rw [List.take_zero, List.nil_append, List.length_map, Nat.zero_add, List.drop_replicate]
  have hd : ∃ x y, cs.toList.drop 256 = [x, y] := by
    have h2 : (cs.toList.drop 256).length = 2 := by rw [List.length_drop, Array.length_toList, hs]
    generalize cs.toList.drop 256 = q at h2
    match q, h2 with
    | [x, y], _ => exact ⟨x, y, rfl⟩
  obtain ⟨x, y, hxy⟩ := hd
  rw [List.size_toArray, hsp, Nat.zero_add, hxy, hsp2]
  have hlen : (L.map Value.string ++ List.replicate (256 - L.length) (Value.string emptyS)).length = 256 := by simp; omega
  unfold trimmed
  simp only [List.take_zero, List.nil_append, List.setIfInBounds_toArray]
  rw [List.set_append_right _ _ (by simp; omega), List.set_append_right _ _ (by simp; omega)]
  simp [show 256 - (L.length + (256 - L.length)) = 0 by omega, show 257 - (L.length + (256 - L.length)) = 1 by omega]

set_option maxRecDepth 100000 in
set_option maxHeartbeats 800000 in
theorem trim_walk (g : Nat) (cs : Array Value) (a b : Int) (L : List ByteArray) (w : World) (hg : w.heap[g]? = some (.cells cs 48 (0, 0))) (hs : cs.size = 258) (hL : L.length ≤ 256)
    (hr : Calls Try.prog 16 #[.pointer (some ⟨g, 0, none⟩), .int .i64 a, .int .i64 b] w fun e w' => ∃ v, e = .returned v ∧ StrsAt w' v L ∧ Below w.heap.size w w') :
    Calls Try.prog 18 #[.pointer (some ⟨g, 0, none⟩), .int .i64 a, .int .i64 b] w fun e w' => e = .returned (.tuple #[]) ∧ w'.heap[g]? = some (.cells (trimmed L) 48 (0, 0)) ∧ Only w w' g := by
  have HR := Lib.hid hr
  have HG := Lib.hid hg
  have hgs : g < w.heap.size := by
    rcases Nat.lt_or_ge g w.heap.size with h | h
    · exact h
    · rw [Array.getElem?_eq_none h] at hg; cases hg
  have hTC := trim_cells cs L hs hL
  obtain ⟨R, hR⟩ : ∃ R, (cs.toList.take 0 ++ (splice (List.replicate 256 (Value.string emptyS)) 0 (strVals L)).toArray.toList ++ cs.toList.drop (0 + (splice (List.replicate 256 (Value.string emptyS)) 0 (strVals L)).toArray.size)).toArray = R := ⟨_, rfl⟩
  rw [hR] at hTC
  have hzl : (List.replicate 256 (Value.string emptyS)).length = 256 := List.length_replicate
  have hZ1 : ∀ u ∈ List.replicate 256 (Value.string emptyS), u.oneCell' = true := fun u hu => by rw [List.eq_of_mem_replicate hu]; rfl
  have hz := zero46
  generalize List.replicate 256 (Value.string emptyS) = ZL at *
  have hsl : (splice ZL 0 (strVals L)).length = 256 := by rw [length_splice _ _ _ (by simp [strVals]; omega)]; exact hzl
  have hSI : Hid ((Try.prog.info? 46).map (·.size) = some (splice ZL 0 (strVals L)).toArray.size) := by rw [List.size_toArray, hsl]; exact size46
  have HTC := Lib.hid hTC
  have HZL := Lib.hid hzl
  have HSL := Lib.hid hsl
  have HS := Lib.hid hs
  have hRs : R.size = 258 := by rw [← hR, List.size_toArray]; simp only [List.length_append, List.length_take, List.length_drop, Array.length_toList, List.size_toArray, hsl, hs]; omega
  have HRs := Lib.hid hRs
  have HRR := Lib.hid hR
  have HFit : Hid (0 + (splice ZL 0 (strVals L)).toArray.size ≤ cs.size) := by rw [List.size_toArray, hsl, hs]; exact (by decide : 0 + 256 ≤ 258)
  have H1 : Hid ((splice ZL 0 (strVals L)).toArray.all (·.oneCell') = true) := by
    refine Array.all_eq_true_iff_forall_mem.2 fun u hu => ?_
    have hu' : u ∈ splice ZL 0 (strVals L) := by simpa using hu
    unfold splice at hu'
    simp only [List.take_zero, List.nil_append, List.mem_append] at hu'
    rcases hu' with hu' | hu'
    · simp only [strVals, List.mem_map] at hu'
      obtain ⟨z, _, rfl⟩ := hu'
      rfl
    · exact hZ1 u (List.mem_of_mem_drop hu')
  clear hg hr hTC hzl hsl hs hRs hR
  go_enter Try.func18, Try.ntmps18
  go_wp2_with fail
  refine HR.out.mono ?_
  rintro e w1 ⟨v, rfl, hv, hb1⟩
  obtain ⟨sp, cap, rfl, hsrc⟩ := hv.shape
  have HB1 := Lib.hid hb1
  have HSrc := Lib.hid hsrc
  have hg1 : w1.heap[g]? = some (.cells cs 48 (0, 0)) := (hb1.block g hgs).trans HG.out
  have HG1 := Lib.hid hg1
  have hgs1 : g < w1.heap.size := Nat.lt_of_lt_of_le hgs hb1.size
  clear hv hb1 hsrc hg1
  have hb2 : Below w1.heap.size w1 (w1.alloc (.cells ZL.toArray 46)) := (Below.refl _ _).alloc (Nat.le_refl _) _
  have HB2 := Lib.hid hb2
  clear hb2
  go_wp2_with (first
    | (with_reducible refine wpList_copy_splice rfl (.tmp 12) (.tmp 13) 22 22 rfl 9 Try.underlying22 (by kernel_rfl) _ sp 256 256 L.length cap rfl rfl w1.heap.size 0 ZL 46 (heap_alloc_new w1 _) (strVals L) ?cn ?cpos ?cfit ?c1 w1.heap.size w1 HB2.out (Nat.le_refl _) ?_))
  case cn => simp only [strVals, List.length_map]; exact (Nat.min_eq_left hL).symm
  case cpos =>
    intro h0
    obtain ⟨ad, had, hc⟩ := HSrc.out (by simpa [strVals] using h0)
    have hcc : ∀ j u, (strVals L)[j]? = some u → (w1.alloc (.cells ZL.toArray 46)).cell? (ad.add j) = some u := fun j u hj => (HB2.out.cell (p := ad.add j) (block_lt_of_cell (hc j u hj))).trans (hc j u hj)
    first
      | exact ⟨ad, had, hcc⟩
      | exact ⟨rfl, ad, had, hcc⟩
  case cfit => rw [HZL.out]; simp [strVals]; omega
  case c1 =>
    intro u hu
    simp only [strVals, List.mem_map] at hu
    obtain ⟨z, _, rfl⟩ := hu
    rfl
  · intro w3 hw3 hb3
    have hg3 : w3.heap[g]? = some (.cells cs 48 (0, 0)) := (hb3.block g hgs1).trans HG1.out
    have HG3 := Lib.hid hg3
    have HB3 := Lib.hid hb3
    clear hg3 hb3
    go_wp2_with (first
      | (with_reducible refine wpList_load_row rfl 46 (.tmp 7) rfl w1.heap.size rfl 46 _ (0, 0) _ hw3.out Try.underlying46 rfl hSI.out ?_)
      | (with_reducible refine wpList_store_part rfl 46 (.tmp 22) (.tmp 18) rfl g 0 _ rfl rfl 48 cs HG3.out HFit.out hSI.out H1.out R HRR.out ?_; intro w4 hg4 honly; have HG4 := Lib.hid hg4; have HO4 := Lib.hid honly; obtain ⟨o6, c6⟩ : ∃ o, w4.cell? ⟨g, 256, none⟩ = some o := ⟨_, (cell_of_row w4 g 256 R 48 (0, 0) hg4).trans (Array.getElem?_eq_getElem (by rw [HRs.out]; decide))⟩; obtain ⟨o7, c7⟩ : ∃ o, w4.cell? ⟨g, 257, none⟩ = some o := ⟨_, (cell_of_row w4 g 257 R 48 (0, 0) hg4).trans (Array.getElem?_eq_getElem (by rw [HRs.out]; decide))⟩; have z6 := frozen_of_row w4 g 256 R 48 hg4; have z7 := frozen_of_row w4 g 257 R 48 hg4; clear hg4 honly))
    go_end0
    have h1 := heap_setCell_same w4 g 256 R 48 (.int .i64 0) HG4.out
    have h2 := heap_setCell_same _ g 257 _ 48 (.int .i64 L.length) h1
    rw [HTC.out] at h2
    have ho : Only w w4 g := by
      refine Only.trans ⟨HB1.out.os, HB1.out.tape, HB1.out.output, HB1.out.size, fun k hk _ => HB1.out.block k hk⟩ (Only.trans ⟨HB3.out.os, HB3.out.tape, HB3.out.output, HB3.out.size, fun k hk _ => HB3.out.block k hk⟩ HO4.out)
    exact ⟨rfl, h2, (ho.trans (Only.setCell _ _ _ _)).trans (Only.setCell _ _ _ _)⟩
end Go.Proofs.Ytemacgcklgdhpaa
