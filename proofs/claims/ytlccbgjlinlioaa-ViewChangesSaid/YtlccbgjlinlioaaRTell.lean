/- The document's Tell. -/
import Derived.Test.YtlccbgjlinlioaaOwned
namespace Go.Proofs.Ytlccbgjlinlioaa
open Go.RowKit

/-- a node's cells -/
def nodeRow (e : Int) (c : Nat → Nat) : List Value := .int .u64 e :: wordsList c
theorem nodeRow_len (e : Int) (c : Nat → Nat) : (nodeRow e c).length = 257 := by simp [nodeRow, wordsList_len]
theorem RN.node {u : World} {B g cap : Nat} {N : NS} (h : RN u B g cap N) (n : Nat) (hn : n < 64) : u.rangeAt g (n * 257) (nodeRow (N.ep n) (N.wd n)) := fun j v hv => by
  cases j with
  | zero =>
    have hv2 : Value.int .u64 (N.ep n) = v := by simpa [nodeRow] using hv
    rw [← hv2, Nat.add_zero]
    exact h.ep n hn
  | succ j =>
    have hv2 : (wordsList (N.wd n))[j]? = some v := by simpa [nodeRow] using hv
    have := h.claims n hn j v hv2
    rw [show n * 257 + (j + 1) = n * 257 + 1 + j by omega]
    exact this
theorem nodeRow_one (e : Int) (c : Nat → Nat) : (nodeRow e c).toArray.all (·.oneCell') = true := by
  refine all_oneCell_toArray fun v hv => ?_
  unfold nodeRow wordsList at hv
  simp only [List.mem_cons, List.mem_map] at hv
  rcases hv with rfl | ⟨i, _, rfl⟩ <;> rfl

set_option maxRecDepth 100000 in
set_option maxHeartbeats 1600000 in
theorem rtell_any {w : World} {B g cap : Nat} {s : VS} (h : RN w B g cap (NS.of s)) {M : Int} (hok : s.Ok M) (kind : Int) :
    Calls Try.prog 41 #[refVal s.self g cap s.cur, .int .i64 kind] w fun e w' => e = .returned (s.tell kind).val ∧ Below w.heap.size w w' := by
  have hgl := h.lt.2
  have hs := hok.self
  have HTell : Hid ((s.tell kind).val = .agg (PK.mk kind s.self 0 (s.ep s.self) s.cur (wordsOf (s.owns s.self))).cells.toArray) := rfl
  have HBd := Lib.hid (build29a kind s.self (s.ep s.self) s.cur (wordsOf (s.owns s.self)))
  have HFs : Hid ((PK.mk kind s.self 0 (s.ep s.self) s.cur (wordsOf (s.owns s.self))).cells.toArray.size = 261) := by rw [List.size_toArray]; exact PK.cells_len _
  have HF1 := Lib.hid (PK.oneCell (PK.mk kind s.self 0 (s.ep s.self) s.cur (wordsOf (s.owns s.self))))
  generalize (PK.mk kind s.self 0 (s.ep s.self) s.cur (wordsOf (s.owns s.self))).cells.toArray = F at *
  have hz29 := zero29
  have hz29s := zeroPkt_size
  have hne29 : ¬ zeroPkt = #[] := by
    intro e
    rw [e] at hz29s
    simp at hz29s
  generalize zeroPkt = Z29 at *
  have hz61 := zero61
  have hz61s := zeroNode_size
  have hne61 : ¬ zeroNode = #[] := by
    intro e
    rw [e] at hz61s
    simp at hz61s
  generalize zeroNode = Z61 at *
  have hb2 : Below w.heap.size w ((w.alloc (.cells #[.int .i64 (s.self : Int), .slice (some ⟨g, 0, none⟩) 64 cap, .int .u64 s.cur] 33)).alloc (.cells Z29 29)) := below2 _ _ _
  have hbx : Box ((w.alloc (.cells #[.int .i64 (s.self : Int), .slice (some ⟨g, 0, none⟩) 64 cap, .int .u64 s.cur] 33)).alloc (.cells Z29 29)) w.heap.size (.int .i64 (s.self : Int)) (.slice (some ⟨g, 0, none⟩) 64 cap) (.int .u64 s.cur) := ⟨by
    rw [Below.heap_alloc _ _ _ (by simp)]
    exact heap_alloc_new w _⟩
  have hz1 : ((w.alloc (.cells #[.int .i64 (s.self : Int), .slice (some ⟨g, 0, none⟩) 64 cap, .int .u64 s.cur] 33)).alloc (.cells Z29 29)).heap[w.heap.size + 1]? = some (.cells Z29 29 (0, 0)) := by
    have := heap_alloc_new (w.alloc (.cells #[.int .i64 (s.self : Int), .slice (some ⟨g, 0, none⟩) 64 cap, .int .u64 s.cur] 33)) (.cells Z29 29)
    simpa using this
  have hws : ((w.alloc (.cells #[.int .i64 (s.self : Int), .slice (some ⟨g, 0, none⟩) 64 cap, .int .u64 s.cur] 33)).alloc (.cells Z29 29)).heap.size = w.heap.size + 1 + 1 := by simp
  have hrn := h.belowN hb2 hgl
  unfold refVal
  generalize hw2 : (w.alloc (.cells #[.int .i64 (s.self : Int), .slice (some ⟨g, 0, none⟩) 64 cap, .int .u64 s.cur] 33)).alloc (.cells Z29 29) = w2 at *
  have HW2 := Lib.hid hw2
  have HNode : Hid (w2.rangeAt g (s.self * 257) (nodeRow (s.ep s.self) (wordsOf (s.owns s.self)))) := hrn.node s.self hs
  have HR := Lib.hid (nodeRow_len (s.ep s.self) (wordsOf (s.owns s.self)))
  have H1 := Lib.hid (nodeRow_one (s.ep s.self) (wordsOf (s.owns s.self)))
  have HS61 : Hid ((Try.prog.info? 61).map (·.size) = some (nodeRow (s.ep s.self) (wordsOf (s.owns s.self))).length) := by rw [HR.out]; exact size61
  have HS61b : Hid ((Try.prog.info? 61).map (·.size) = some (nodeRow (s.ep s.self) (wordsOf (s.owns s.self))).toArray.size) := by rw [List.size_toArray]; exact HS61.out
  have HZ61 : Hid (Z61.size = (nodeRow (s.ep s.self) (wordsOf (s.owns s.self))).toArray.size) := by
    show Z61.size = _
    rw [hz61s, List.size_toArray, HR.out]
  have HS29 : Hid ((Try.prog.info? 29).map (·.size) = some F.size) := by rw [HFs.out]; exact size29
  have HZ29 : Hid (Z29.size = F.size) := by rw [HFs.out]; exact hz29s
  have HS24 : Hid ((Try.prog.info? 24).map (·.size) = some (wordsList (wordsOf (s.owns s.self))).length) := by rw [wordsList_len]; exact size24b
  have hE : ∀ u : World, ∀ b, u.heap[b]? = some (.cells (nodeRow (s.ep s.self) (wordsOf (s.owns s.self))).toArray 61 (0, 0)) → u.cell? ⟨b, 0, none⟩ = some (.int .u64 (s.ep s.self)) ∧ u.rangeAt b 1 (wordsList (wordsOf (s.owns s.self))) := by
    intro u b hb
    refine ⟨(cell_of_row _ _ _ _ _ _ hb).trans rfl, fun j v hv => ?_⟩
    rw [cell_of_row _ _ _ _ _ _ hb, List.getElem?_toArray, show 1 + j = j + 1 by omega]
    exact hv
  have HE := Lib.hid hE
  unfold wordsArr at HBd
  generalize wordsList (wordsOf (s.owns s.self)) = WL at *
  generalize nodeRow (s.ep s.self) (wordsOf (s.owns s.self)) = NR at *
  generalize s.ep s.self = ep at *
  generalize s.self = self at *
  generalize s.cur = cur at *
  have HB61 : Hid ((w2.alloc (.cells Z61 61)).heap[w.heap.size + 1 + 1]? = some (.cells Z61 61 (0, 0))) := by
    show _ = _
    rw [← hws]
    exact heap_alloc_new w2 _
  have hsi : (0 : Int) ≤ (self : Int) ∧ (self : Int) < 64 := by omega
  have HBel := Lib.hid hb2
  have HZ1 := Lib.hid hz1
  have HBx := Lib.hid hbx
  have a0 := hbx.cell0
  have a1 := hbx.cell1
  have a2 := hbx.cell2
  clear hw2 hb2 hbx hrn h hok hE hz1
  go_enter Try.func41, Try.ntmps41
  go_upto_region 1 with fail
  rw [HW2.out]
  go_upto_region 2 with (first
    | (with_reducible refine wpList_load_mid rfl 61 (.tmp 10) rfl g (self * 257) rfl NR _ HNode.out Try.underlying61 rfl HS61.out ?_)
    | (with_reducible refine wpList_store_row rfl 61 (.tmp 5) (.tmp 11) rfl (w.heap.size + 1 + 1) NR.toArray rfl rfl 61 Z61 HB61.out HS61b.out HZ61.out H1.out ?_))
  have hblk := setRow_heap (w2.alloc (.cells Z61 61)) (w.heap.size + 1 + 1) Z61 NR.toArray 61 (0, 0) HB61.out
  have hb3 : Below w2.heap.size w2 ((w2.alloc (.cells Z61 61)).setRow (w.heap.size + 1 + 1) NR.toArray) := below_setRow ((Below.refl _ _).alloc (Nat.le_refl _) _) (by omega) _
  generalize (w2.alloc (.cells Z61 61)).setRow (w.heap.size + 1 + 1) NR.toArray = u3 at *
  obtain ⟨c0, hrg⟩ := HE.out u3 _ hblk
  have HRg := Lib.hid hrg
  have hbx3 := HBx.out.below hb3 (by omega)
  have HZ3 : Hid (u3.heap[w.heap.size + 1]? = some (.cells Z29 29 (0, 0))) := (hb3.block _ (by omega)).trans HZ1.out
  have HB3 := Lib.hid (HBel.out.trans (hb3.mono (by omega)))
  clear a0 a1 a2 hblk hb3 hrg
  have a0 := hbx3.cell0
  have a2 := hbx3.cell2
  clear hbx3
  go_wp2_with (first
    | (with_reducible refine wpList_load_mid rfl 24 (.tmp 19) rfl (w.heap.size + 1 + 1) 1 rfl WL _ HRg.out Try.underlying24 rfl HS24.out ?_)
    | (with_reducible refine wpList_build_some rfl 29 #[(0, .tmp 12), (1, .tmp 14), (3, .tmp 16), (4, .tmp 18), (5, .tmp 20)] rfl [(0, .int .i64 kind), (1, .int .i64 (self : Int)), (3, .int .u64 ep), (4, .int .u64 cur), (5, .agg WL.toArray)] ?b1 F HBd.out ?_)
    | (with_reducible refine wpList_store_row rfl 29 (.tmp 4) (.tmp 21) rfl (w.heap.size + 1) F rfl rfl 29 Z29 HZ3.out HS29.out HZ29.out HF1.out ?_))
  have hfin := setRow_heap u3 (w.heap.size + 1) Z29 F 29 (0, 0) HZ3.out
  have hl : (loadVar 29 ⟨w.heap.size + 1, 0, none⟩).run Try.prog (u3.setRow (w.heap.size + 1) F) = .ok (.agg F) (u3.setRow (w.heap.size + 1) F) := run_loadVar_row (P := Try.prog) _ _ 29 29 F (0, 0) _ hfin Try.underlying29 rfl HS29.out
  refine bodyPost_ret (results_cell1 (p := 4) (ty := 29) rfl _ _ ⟨w.heap.size + 1, 0, none⟩ rfl _ hl) rfl ?_
  exact ⟨by rw [HTell.out], below_setRow HB3.out (by omega) _⟩
end Go.Proofs.Ytlccbgjlinlioaa
