/- The arguments of the laws of the sum, opened: bytes; the table; the world of the witness. -/
import Derived.Test.YtfokonoeaifceaaDoorLaws
import Derived.Test.YtfokonoeaifceaaDoorKit
import Derived.Test.YtfokonoeaifceaaDoorTie
import Derived.Deep.DeepHandedRow
import Derived.Lib.LaidTab
namespace Go.Proofs.YtfokonoeaifceaaDoor
open Go.ChangeShapes Go.WideShapes Go.ChangeAt Go.RowKit CrcM

theorem Tryd.own : ownKnob Tryd.prog.godebug = none := by kernel_rfl
theorem Tryd.laidOut : laidOutB Tryd.prog = true := by kernel_rfl
theorem gTab : Tryd.prog.globalNamed "marshalyard/crc.halves" = some 0 := by kernel_rfl
theorem gTabType : (Tryd.prog.globals[0]?).map (·.type) = some 35 := by kernel_rfl
theorem cells35 : Tryd.prog.cellsOf 35 = 16 := by kernel_rfl
theorem cells24 : Tryd.prog.cellsOf 24 = 1 := by kernel_rfl
theorem cells5 : Tryd.prog.cellsOf 5 = 1 := by kernel_rfl
theorem bytes5 : Tryd.prog.bytesOf 5 = 1 := by kernel_rfl

def tabInts : List Int := [0, 4129, 8258, 12387, 16516, 20645, 24774, 28903, 33032, 37161, 41290, 45419, 49548, 53677, 57806, 61935]

theorem table {W : World} (h : laidMetH Tryd.prog Rows.crcSumsRow.laid W) : TabAt W ∧ 0 < W.heap.size := by
  have ht : Lib.TabIs Tryd.prog W "marshalyard/crc.halves" .u16 tabInts := Lib.tabIs_of_head (rest := []) gTab gTabType Tryd.underlying35 Tryd.underlying24 cells24 cells35 h
  have hc : ∀ i, i < 16 → W.cell? ⟨0, i, none⟩ = some (.int .u16 (tabInts.getD i 0)) := fun i hi => ht.cell gTab i hi
  refine ⟨fun i hi => ?_, ?_⟩
  · rw [hc i hi]
    rcases (show i = 0 ∨ i = 1 ∨ i = 2 ∨ i = 3 ∨ i = 4 ∨ i = 5 ∨ i = 6 ∨ i = 7 ∨ i = 8 ∨ i = 9 ∨ i = 10 ∨ i = 11 ∨ i = 12 ∨ i = 13 ∨ i = 14 ∨ i = 15 by omega) with rfl | rfl | rfl | rfl | rfl | rfl | rfl | rfl | rfl | rfl | rfl | rfl | rfl | rfl | rfl | rfl <;> rfl
  · have := hc 0 (by decide)
    exact block_lt_of_cell this

/-- A slice of bytes that came in. -/
theorem open_bytes {H : Type} {enc : TypeId × Value → H} {W : World} {base : Nat} {v : Value} {d : DataW H} {p : List MemPlace} (hv : Value.okWide Tryd.prog W .any base 22 v)
    (h : DataW.Trod enc Tryd.prog W 0 (fun _ => true) true 22 v d p) (hlt : ∀ x ∈ p, x.block < W.heap.size)
    (hsz : ∀ elems spare : List (DataW H), d = .slice elems spare → elems.length + spare.length ≤ reachBytes) :
    ∃ l : List Int, (∀ x ∈ l, isByte x) ∧ l.length ≤ 140737488351232 ∧ (∀ W', Below W.heap.size W W' → BytesAt W' v l) ∧ ∃ a cap, v = .slice a l.length cap := by
  obtain ⟨a0, len, cap, rfl⟩ := okWide_slice Tryd.underlying22 hv
  obtain ⟨fuel, hf⟩ := h
  rcases open_ints Tryd.underlying22 Tryd.underlying5 cells5 hf with ⟨hcs, hx⟩ | ⟨a, len', cap', zs, hcs, _, hl, hm, hz, hx, hcell, hwz⟩
  · simp [Value.cells] at hcs
    obtain ⟨rfl, rfl, rfl⟩ := hcs
    exact ⟨[], by simp, by simp, fun _ _ => .inl ⟨rfl, _, _, rfl⟩, _, _, rfl⟩
  · simp [Value.cells] at hcs
    obtain ⟨rfl, rfl, rfl⟩ := hcs
    simp only [Prod.mk.injEq] at hx
    obtain ⟨rfl, rfl⟩ := hx
    simp only [if_true] at hz
    have hr := hsz _ _ rfl
    simp only [lits, List.length_map, List.length_take, List.length_drop, reachBytes] at hr
    have hwb : ∀ x ∈ zs, isByte x := by
      intro x hx
      have := hwz x hx
      simp only [Lit.wf, Bool.and_eq_true, decide_eq_true_eq] at this
      have h1 : IntKind.u8.min = 0 := rfl
      have h2 : IntKind.u8.max = 255 := rfl
      unfold isByte
      omega
    refine ⟨zs.take len, fun x hx => hwb x (List.mem_of_mem_take hx), by rw [List.length_take]; omega, ?_, some a, cap, by rw [List.length_take, Nat.min_eq_left (by omega)]⟩
    intro W' hb
    by_cases h0 : len = 0
    · subst h0
      exact .inl ⟨by simp, _, _, rfl⟩
    · obtain ⟨b, off, spot⟩ := a
      have hspot : spot = none := by simpa [Addr.add] using World.cell?_spot (hcell 0 (by omega))
      subst hspot
      have hbW : b < W.heap.size := hlt (.cell b off) (MemPlace.mem_row.2 ⟨0, by omega, by simp⟩)
      refine .inr ⟨b, off, cap, by rw [List.length_take, Nat.min_eq_left (by omega)], fun i hi => ?_⟩
      rw [List.length_take] at hi
      rw [hb.cell (p := ⟨b, off + i, none⟩) hbW, ← add_plain, hcell i (by omega)]
      congr 2
      simp [List.getD, show i < len by omega]

/-- A WORLD FOR THE WITNESS: the settled one, the table (block 0) holding what its initialiser lays. -/
noncomputable def laidWorld (os : Os) : World :=
  { World.holding Tryd.prog os ⟨#[], #[], []⟩ with heap := (World.holding Tryd.prog os ⟨#[], #[], []⟩).heap.modify 0 fun
      | .cells _ t frozen => .cells #[.int .u16 0, .int .u16 4129, .int .u16 8258, .int .u16 12387, .int .u16 16516, .int .u16 20645, .int .u16 24774, .int .u16 28903, .int .u16 33032, .int .u16 37161, .int .u16 41290, .int .u16 45419, .int .u16 49548, .int .u16 53677, .int .u16 57806, .int .u16 61935] t frozen
      | o => o }
end Go.Proofs.YtfokonoeaifceaaDoor
