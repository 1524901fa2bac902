/- The arguments of the laws of the sum, opened: bytes; the table; the world of the witness. -/
import Derived.Test.YtfokonoeaifceaaDoorXors
import Derived.Test.YtfokonoeaifceaaDoorKit
import Derived.Test.YtfokonoeaifceaaDoorTie
import Derived.Deep.DeepHandedRow
import Derived.Lib.LaidTab
namespace Go.Proofs.YtfokonoeaifceaaDoor
open Go.ChangeShapes Go.WideShapes Go.ChangeAt Go.RowKit CrcM

theorem Tryd.own : ownKnob Tryd.prog.godebug = none := by kernel_rfl
theorem Tryd.laidOut : laidOutB Tryd.prog = true := by kernel_rfl
theorem gTab : Tryd.prog.globalNamed "marshalyard/crc.halves" = some 0 := by kernel_rfl
theorem gTabType : (Tryd.prog.globals[0]?).map (·.type) = some 35 := by kernel_rfl
theorem cells35 : Tryd.prog.cellsOf 35 = 16 := by kernel_rfl
theorem cells24 : Tryd.prog.cellsOf 24 = 1 := by kernel_rfl
theorem cells5 : Tryd.prog.cellsOf 5 = 1 := by kernel_rfl
theorem cells33 : Tryd.prog.cellsOf 33 = 2 := by kernel_rfl
theorem bytes5 : Tryd.prog.bytesOf 5 = 1 := by kernel_rfl

def tabInts : List Int := [0, 4129, 8258, 12387, 16516, 20645, 24774, 28903, 33032, 37161, 41290, 45419, 49548, 53677, 57806, 61935]

theorem table {W : World} (h : laidMetH Tryd.prog Rows.crcSumsRow.laid W) : TabAt W ∧ 0 < W.heap.size := by
  have ht : Lib.TabIs Tryd.prog W "marshalyard/crc.halves" .u16 tabInts := Lib.tabIs_of_head (rest := []) gTab gTabType Tryd.underlying35 Tryd.underlying24 cells24 cells35 h
  have hc : ∀ i, i < 16 → W.cell? ⟨0, i, none⟩ = some (.int .u16 (tabInts.getD i 0)) := fun i hi => ht.cell gTab i hi
  refine ⟨fun i hi => ?_, ?_⟩
  · rw [hc i hi]
    rcases (show i = 0 ∨ i = 1 ∨ i = 2 ∨ i = 3 ∨ i = 4 ∨ i = 5 ∨ i = 6 ∨ i = 7 ∨ i = 8 ∨ i = 9 ∨ i = 10 ∨ i = 11 ∨ i = 12 ∨ i = 13 ∨ i = 14 ∨ i = 15 by omega) with rfl | rfl | rfl | rfl | rfl | rfl | rfl | rfl | rfl | rfl | rfl | rfl | rfl | rfl | rfl | rfl <;> rfl
  · have := hc 0 (by decide)
    exact block_lt_of_cell this

/-- A slice of bytes that came in. -/
theorem open_bytes {H : Type} {enc : TypeId × Value → H} {W : World} {base : Nat} {v : Value} {d : DataW H} {p : List MemPlace} (hv : Value.okWide Tryd.prog W .any base 22 v)
    (h : DataW.Trod enc Tryd.prog W 0 (fun _ => true) true 22 v d p) (hlt : ∀ x ∈ p, x.block < W.heap.size)
    (hsz : ∀ elems spare : List (DataW H), d = .slice elems spare → elems.length + spare.length ≤ reachBytes) :
    ∃ (ao : Option Addr) (cap : Nat) (l : List Int), v = .slice ao l.length cap ∧ BytesIn W ao cap l ∧ l.length ≤ 140737488351232 ∧
      (d = .nil ∧ l = [] ∨ ∃ spare, d = .slice (lits .u8 l) spare) := by
  obtain ⟨a0, len, cap, rfl⟩ := okWide_slice Tryd.underlying22 hv
  obtain ⟨fuel, hf⟩ := h
  rcases open_ints Tryd.underlying22 Tryd.underlying5 cells5 hf with ⟨hcs, hx⟩ | ⟨a, len', cap', zs, hcs, _, hl, hm, hz, hx, hcell, hwz⟩
  · simp [Value.cells] at hcs
    obtain ⟨rfl, rfl, rfl⟩ := hcs
    simp only [Prod.mk.injEq] at hx
    exact ⟨_, _, [], rfl, ⟨Nat.le_refl _, by simp, fun _ => rfl, fun k hk => by simp at hk⟩, by simp, .inl ⟨hx.1, rfl⟩⟩
  · simp [Value.cells] at hcs
    obtain ⟨rfl, rfl, rfl⟩ := hcs
    simp only [Prod.mk.injEq] at hx
    obtain ⟨rfl, rfl⟩ := hx
    simp only [if_true] at hz
    have hr := hsz _ _ rfl
    simp only [lits, List.length_map, List.length_take, List.length_drop, reachBytes] at hr
    have hwb : ∀ x ∈ zs, isByte x := by
      intro x hx
      have := hwz x hx
      simp only [Lit.wf, Bool.and_eq_true, decide_eq_true_eq] at this
      have h1 : IntKind.u8.min = 0 := rfl
      have h2 : IntKind.u8.max = 255 := rfl
      unfold isByte
      omega
    have hlen : (zs.take len).length = len := by rw [List.length_take, Nat.min_eq_left (by omega)]
    refine ⟨some a, cap, zs.take len, by rw [hlen], ⟨by omega, fun x hx => hwb x (List.mem_of_mem_take hx), fun h => by simp at h, fun k hk => ?_⟩, by omega, .inr ⟨_, rfl⟩⟩
    rw [hlen] at hk
    obtain ⟨b, off, spot⟩ := a
    have hspot : spot = none := by simpa [Addr.add] using World.cell?_spot (hcell 0 (by omega))
    subst hspot
    have hbW : b < W.heap.size := hlt (.cell b off) (MemPlace.mem_row.2 ⟨0, by omega, by simp⟩)
    refine ⟨b, off, rfl, hbW, fun i hi => ?_⟩
    rw [hlen] at hi
    rw [← add_plain, hcell i (by omega)]
    congr 2
    simp [List.getD, show i < len by omega]

theorem BytesIn.all {w : World} {ao : Option Addr} {cap : Nat} {l : List Int} (h : BytesIn w ao cap l) : ∀ w', Below w.heap.size w w' → BytesAt w' (.slice ao l.length cap) l := fun w' hb => by
  have := h.at hb l.length (Nat.le_refl _)
  rwa [List.take_length] at this

theorem byte_of {x : Int} (h : (Lit.int .u8 x).wf = true) : isByte x := by
  simp only [Lit.wf, Bool.and_eq_true, decide_eq_true_eq] at h
  have h1 : IntKind.u8.min = 0 := rfl
  have h2 : IntKind.u8.max = 255 := rfl
  unfold isByte
  omega

/-- A number of 16 bits that came in. -/
theorem word_of {x : Int} (h : (Lit.int .u16 x).wf = true) : 0 ≤ x ∧ x < 65536 ∧ ∃ c : BitVec 16, x = (c.toNat : Int) := by
  simp only [Lit.wf, Bool.and_eq_true, decide_eq_true_eq] at h
  have h1 : IntKind.u16.min = 0 := rfl
  have h2 : IntKind.u16.max = 65535 := rfl
  refine ⟨by omega, by omega, BitVec.ofNat 16 x.toNat, ?_⟩
  simp
  omega

/-- A WORLD FOR THE WITNESS: the settled one, the table (block 0) holding what its initialiser lays. -/
noncomputable def laidWorld (os : Os) : World :=
  { World.holding Tryd.prog os ⟨#[], #[], []⟩ with heap := (World.holding Tryd.prog os ⟨#[], #[], []⟩).heap.modify 0 fun
      | .cells _ t frozen => .cells #[.int .u16 0, .int .u16 4129, .int .u16 8258, .int .u16 12387, .int .u16 16516, .int .u16 20645, .int .u16 24774, .int .u16 28903, .int .u16 33032, .int .u16 37161, .int .u16 41290, .int .u16 45419, .int .u16 49548, .int .u16 53677, .int .u16 57806, .int .u16 61935] t frozen
      | o => o }
end Go.Proofs.YtfokonoeaifceaaDoor
