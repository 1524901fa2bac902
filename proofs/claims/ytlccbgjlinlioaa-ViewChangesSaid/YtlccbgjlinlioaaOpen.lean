/- The arguments of the laws, opened: a beginning, a script, a packet. -/
import Derived.Test.YtlccbgjlinlioaaDoes
import Derived.Test.YtlccbgjlinlioaaKit
import Derived.Deep.Slices
import Derived.SizedLaws
namespace Go.Proofs.Ytlccbgjlinlioaa
open Go.ChangeShapes Go.WideShapes Go.ChangeAt Go.RowKit Go.Deep

theorem Try.own : ownKnob Try.prog.godebug = none := by kernel_rfl
theorem Try.laidOut : laidOutB Try.prog = true := by kernel_rfl
theorem cells3 : Try.prog.cellsOf 3 = 1 := by kernel_rfl
theorem cells22 : Try.prog.cellsOf 22 = 1 := by kernel_rfl
theorem cells24 : Try.prog.cellsOf 24 = 256 := by kernel_rfl
theorem cells26 : Try.prog.cellsOf 26 = 258 := by kernel_rfl
theorem cells29 : Try.prog.cellsOf 29 = 261 := by kernel_rfl
theorem cells38 : Try.prog.cellsOf 38 = 265 := by kernel_rfl

theorem int_rng {x : Int} (h : (Lit.int .i64 x).wf = true) : -9223372036854775808 ≤ x ∧ x ≤ 9223372036854775807 := by
  simp only [Lit.wf, Bool.and_eq_true, decide_eq_true_eq] at h
  have h1 : IntKind.i64.min = -9223372036854775808 := rfl
  have h2 : IntKind.i64.max = 9223372036854775807 := rfl
  omega
theorem u64_rng {x : Int} (h : (Lit.int .u64 x).wf = true) : 0 ≤ x ∧ x ≤ 18446744073709551615 := by
  simp only [Lit.wf, Bool.and_eq_true, decide_eq_true_eq] at h
  have h1 : IntKind.u64.min = 0 := rfl
  have h2 : IntKind.u64.max = 18446744073709551615 := rfl
  omega

section
variable {H : Type} {enc : TypeId × Value → H} {w : World} {base : Nat} {sp : Nat → Bool} {held : Bool}

theorem piece (cs : List Value) (i n : Nat) : cs.drop i = (cs.drop i).take n ++ cs.drop (i + n) := by
  rw [← List.drop_drop]
  exact (List.take_append_drop n (cs.drop i)).symm

theorem open_words {fuel : Nat} {cs : List Value} {x : DataW H × List MemPlace} (h : DataW.trod enc Try.prog w base sp held fuel 24 cs = some x) : ∃ c : Nat → Nat, (∀ i, c i < 18446744073709551616) ∧ cs = wordsList c := by
  obtain ⟨xs, m, _, _, hl, hn, hat⟩ := DataW.trod_array Try.underlying24 h
  rw [cells24] at hl
  have hz : ∀ i, i < 256 → ∃ z : Nat, cs[i]? = some (.int .u64 (z : Int)) ∧ z < 18446744073709551616 := by
    intro i hi
    have h1 := hat i hi
    rw [cells22, Nat.mul_one] at h1
    obtain ⟨y, hy⟩ : ∃ y, xs[i]? = some y := ⟨_, List.getElem?_eq_getElem (by omega)⟩
    rw [hy] at h1
    obtain ⟨z, hc, _, hwf⟩ := DataW.trod_int Try.underlying22 h1
    have hr := u64_rng hwf
    refine ⟨z.toNat, ?_, by omega⟩
    have h2 : (cs.drop i).take 1 = [cs[i]'(by omega)] := by
      rw [List.drop_eq_getElem_cons (show i < cs.length by omega)]
      rfl
    rw [h2] at hc
    have h3 : cs[i]'(by omega) = .int .u64 z := by simpa using hc
    rw [List.getElem?_eq_getElem (by omega), h3, Int.toNat_of_nonneg hr.1]
  obtain ⟨f, hf⟩ := choose_lt hz
  refine ⟨fun i => if i < 256 then f i else 0, fun i => ?_, ?_⟩
  · simp only
    split
    · rename_i hi; exact (hf i hi).2
    · decide
  · apply List.ext_getElem?
    intro i
    by_cases hi : i < 256
    · rw [(hf i hi).1, wordsList_get _ i hi]
      simp [hi]
    · rw [List.getElem?_eq_none (by omega), List.getElem?_eq_none (by rw [wordsList_len]; omega)]

theorem open_pk {fuel : Nat} {cs : List Value} {x : DataW H × List MemPlace} (h : DataW.trod enc Try.prog w base sp held fuel 29 cs = some x) : ∃ p : PK, p.Ok ∧ cs = p.cells := by
  obtain ⟨xs, k, _, _, hl, hxl, hf⟩ := DataW.trod_struct Try.underlying29 h
  rw [cells29] at hl
  match xs, hxl with
  | [y0, y1, y2, y3, y4, y5], _ =>
    have g0 : DataW.trod enc Try.prog w base sp held k 3 ((cs.drop 0).take (Try.prog.cellsOf 3)) = some y0 := hf 0 _ rfl
    rw [cells3] at g0
    have g1 : DataW.trod enc Try.prog w base sp held k 3 ((cs.drop 1).take (Try.prog.cellsOf 3)) = some y1 := hf 1 _ rfl
    rw [cells3] at g1
    have g2 : DataW.trod enc Try.prog w base sp held k 3 ((cs.drop 2).take (Try.prog.cellsOf 3)) = some y2 := hf 2 _ rfl
    rw [cells3] at g2
    have g3 : DataW.trod enc Try.prog w base sp held k 22 ((cs.drop 3).take (Try.prog.cellsOf 22)) = some y3 := hf 3 _ rfl
    rw [cells22] at g3
    have g4 : DataW.trod enc Try.prog w base sp held k 22 ((cs.drop 4).take (Try.prog.cellsOf 22)) = some y4 := hf 4 _ rfl
    rw [cells22] at g4
    have g5 : DataW.trod enc Try.prog w base sp held k 24 ((cs.drop 5).take (Try.prog.cellsOf 24)) = some y5 := hf 5 _ rfl
    rw [cells24] at g5
    obtain ⟨z0, e0, _, _⟩ := DataW.trod_int Try.underlying3 g0
    obtain ⟨z1, e1, _, _⟩ := DataW.trod_int Try.underlying3 g1
    obtain ⟨z2, e2, _, _⟩ := DataW.trod_int Try.underlying3 g2
    obtain ⟨z3, e3, _, w3⟩ := DataW.trod_int Try.underlying22 g3
    obtain ⟨z4, e4, _, w4⟩ := DataW.trod_int Try.underlying22 g4
    obtain ⟨c, hc, e5⟩ := open_words g5
    refine ⟨⟨z0, z1, z2, z3, z4, c⟩, ⟨u64_rng w3, u64_rng w4, hc⟩, ?_⟩
    have e6 : (cs.drop 5).take 256 = cs.drop 5 := List.take_of_length_le (by simp; omega)
    have e7 : cs = cs.drop 0 := rfl
    rw [e7, piece cs 0 1, piece cs (0 + 1) 1, piece cs (0 + 1 + 1) 1, piece cs (0 + 1 + 1 + 1) 1, piece cs (0 + 1 + 1 + 1 + 1) 1]
    simp only [Nat.zero_add, Nat.reduceAdd]
    rw [e0, e1, e2, e3, e4, ← e6, e5]
    rfl

theorem open_opv {fuel : Nat} {cs : List Value} {x : DataW H × List MemPlace} (h : DataW.trod enc Try.prog w base sp held fuel 38 cs = some x) : ∃ o : OPV, o.Ok ∧ cs = o.cells := by
  obtain ⟨xs, k, _, _, hl, hxl, hf⟩ := DataW.trod_struct Try.underlying38 h
  rw [cells38] at hl
  match xs, hxl with
  | [y0, y1, y2, y3, y4], _ =>
    have g0 : DataW.trod enc Try.prog w base sp held k 3 ((cs.drop 0).take (Try.prog.cellsOf 3)) = some y0 := hf 0 _ rfl
    rw [cells3] at g0
    have g1 : DataW.trod enc Try.prog w base sp held k 3 ((cs.drop 1).take (Try.prog.cellsOf 3)) = some y1 := hf 1 _ rfl
    rw [cells3] at g1
    have g2 : DataW.trod enc Try.prog w base sp held k 3 ((cs.drop 2).take (Try.prog.cellsOf 3)) = some y2 := hf 2 _ rfl
    rw [cells3] at g2
    have g3 : DataW.trod enc Try.prog w base sp held k 22 ((cs.drop 3).take (Try.prog.cellsOf 22)) = some y3 := hf 3 _ rfl
    rw [cells22] at g3
    have g4 : DataW.trod enc Try.prog w base sp held k 29 ((cs.drop 4).take (Try.prog.cellsOf 29)) = some y4 := hf 4 _ rfl
    rw [cells29] at g4
    obtain ⟨z0, e0, _, _⟩ := DataW.trod_int Try.underlying3 g0
    obtain ⟨z1, e1, _, _⟩ := DataW.trod_int Try.underlying3 g1
    obtain ⟨z2, e2, _, _⟩ := DataW.trod_int Try.underlying3 g2
    obtain ⟨z3, e3, _, w3⟩ := DataW.trod_int Try.underlying22 g3
    obtain ⟨p, hp, e4⟩ := open_pk g4
    refine ⟨⟨z0, z1, z2, z3, p⟩, ⟨(u64_rng w3).1, hp⟩, ?_⟩
    have e6 : (cs.drop 4).take 261 = cs.drop 4 := List.take_of_length_le (by simp; omega)
    have e7 : cs = cs.drop 0 := rfl
    rw [e7, piece cs 0 1, piece cs (0 + 1) 1, piece cs (0 + 1 + 1) 1, piece cs (0 + 1 + 1 + 1) 1]
    simp only [Nat.zero_add, Nat.reduceAdd]
    rw [e0, e1, e2, e3, ← e6, e4]
    rfl

/-- how a view begins -/
structure BG where
  self : Int
  c : Nat → Nat
  ep : Int
structure BG.Ok (b : BG) : Prop where
  lt : ∀ i, b.c i < 18446744073709551616
  ep : 0 ≤ b.ep
def BG.cells (b : BG) : List Value := [.int .i64 b.self] ++ wordsList b.c ++ [.int .u64 b.ep]
def BG.val (b : BG) : Value := .agg b.cells.toArray
theorem BG.cells_len (b : BG) : b.cells.length = 258 := by simp [BG.cells, wordsList_len]

theorem open_bg {fuel : Nat} {cs : List Value} {x : DataW H × List MemPlace} (h : DataW.trod enc Try.prog w base sp held fuel 26 cs = some x) : ∃ b : BG, b.Ok ∧ cs = b.cells := by
  obtain ⟨xs, k, _, _, hl, hxl, hf⟩ := DataW.trod_struct Try.underlying26 h
  rw [cells26] at hl
  match xs, hxl with
  | [y0, y1, y2], _ =>
    have g0 : DataW.trod enc Try.prog w base sp held k 3 ((cs.drop 0).take (Try.prog.cellsOf 3)) = some y0 := hf 0 _ rfl
    rw [cells3] at g0
    have g1 : DataW.trod enc Try.prog w base sp held k 24 ((cs.drop 1).take (Try.prog.cellsOf 24)) = some y1 := hf 1 _ rfl
    rw [cells24] at g1
    have g2 : DataW.trod enc Try.prog w base sp held k 22 ((cs.drop 257).take (Try.prog.cellsOf 22)) = some y2 := hf 2 _ rfl
    rw [cells22] at g2
    obtain ⟨z0, e0, _, _⟩ := DataW.trod_int Try.underlying3 g0
    obtain ⟨c, hc, e1⟩ := open_words g1
    obtain ⟨z2, e2, _, w2⟩ := DataW.trod_int Try.underlying22 g2
    refine ⟨⟨z0, c, z2⟩, ⟨hc, (u64_rng w2).1⟩, ?_⟩
    have e6 : (cs.drop 257).take 1 = cs.drop 257 := List.take_of_length_le (by simp; omega)
    have e7 : cs = cs.drop 0 := rfl
    rw [e7, piece cs 0 1, piece cs (0 + 1) 256]
    simp only [Nat.zero_add, Nat.reduceAdd]
    rw [e0, e1, ← e6, e2]
    rfl
end

theorem okWide_struct {W : World} {r : Reach} {base : Nat} {t : TypeId} {fs : Array Field} {v : Value} (ht : Try.prog.underlying t = some (.struct fs)) (h : Value.okWide Try.prog W r base t v) : ∃ cs, v = .agg cs := by
  simp only [Value.okWide, ht] at h
  obtain ⟨cs, h1, _⟩ := h
  exact ⟨cs, h1⟩

theorem open_begin {H : Type} {enc : TypeId × Value → H} {W : World} {base : Nat} {v : Value} {d : DataW H} {p : List MemPlace} (hv : Value.okWide Try.prog W .any base 26 v)
    (h : DataW.Trod enc Try.prog W 0 (fun _ => true) true 26 v d p) : ∃ b : BG, b.Ok ∧ v = b.val := by
  obtain ⟨cs, rfl⟩ := okWide_struct Try.underlying26 hv
  obtain ⟨fuel, hf⟩ := h
  obtain ⟨b, hb, e⟩ := open_bg hf
  refine ⟨b, hb, ?_⟩
  simp only [Value.cells] at e
  unfold BG.val
  rw [← e]

theorem open_packet {H : Type} {enc : TypeId × Value → H} {W : World} {base : Nat} {v : Value} {d : DataW H} {p : List MemPlace} (hv : Value.okWide Try.prog W .any base 29 v)
    (h : DataW.Trod enc Try.prog W 0 (fun _ => true) true 29 v d p) : ∃ q : PK, q.Ok ∧ v = q.val := by
  obtain ⟨cs, rfl⟩ := okWide_struct Try.underlying29 hv
  obtain ⟨fuel, hf⟩ := h
  obtain ⟨q, hq, e⟩ := open_pk hf
  refine ⟨q, hq, ?_⟩
  simp only [Value.cells] at e
  unfold PK.val
  rw [← e]

instance : Inhabited OPV := ⟨⟨0, 0, 0, 0, ⟨0, 0, 0, 0, 0, fun _ => 0⟩⟩⟩

/-- a script that came in -/
def OpsIn (w : World) (v : Value) (os : List OPV) : Prop := ∃ ao cap, v = .slice ao os.length cap ∧ (∀ o ∈ os, o.Ok) ∧ os.length ≤ 9223372036854775807 ∧
  (0 < os.length → ∃ b off, ao = some ⟨b, off, none⟩ ∧ b < w.heap.size ∧ ∀ i o, os[i]? = some o → w.rangeAt b (off + i * 265) o.cells)

theorem rangeAt_of_cells? {W : World} {b off : Nat} {cs : List Value} (h : W.cells? 0 ⟨b, off, none⟩ cs.length = some cs) : W.rangeAt b off cs := by
  obtain ⟨_, _, hc⟩ := World.cells?_some h
  intro j v hv
  have hj := (List.getElem?_eq_some_iff.1 hv).1
  have := hc j hj
  rw [Addr.add_mid] at this
  rw [this]
  exact hv

theorem open_ops {H : Type} {enc : TypeId × Value → H} {W : World} {base : Nat} {v : Value} {d : DataW H} {p : List MemPlace} (hv : Value.okWide Try.prog W .any base 27 v)
    (h : DataW.Trod enc Try.prog W 0 (fun _ => true) true 27 v d p) : ∃ os, OpsIn W v os := by
  obtain ⟨a0, len, cap, rfl⟩ := okWide_slice Try.underlying27 hv
  obtain ⟨fuel, hf⟩ := h
  rcases open_slice Try.underlying27 hf with ⟨hcs, hx⟩ | ⟨a, len', cap', m, n, D, Pl, hcs, _, hl, hm, hmm, hx, hcell⟩
  · simp [Value.cells] at hcs
    obtain ⟨rfl, rfl, rfl⟩ := hcs
    exact ⟨[], _, _, rfl, fun _ h => by simp at h, by simp, fun h => by simp at h⟩
  · simp [Value.cells] at hcs
    obtain ⟨rfl, rfl, rfl⟩ := hcs
    simp only [if_true] at hmm
    rw [cells38] at hcell
    have each : ∀ i, i < len → ∃ o : OPV, o.Ok ∧ W.cells? 0 (a.add (i * 265)) o.cells.length = some o.cells := by
      intro i hi
      obtain ⟨cs', h1, h2⟩ := hcell i (by omega)
      obtain ⟨o, ho, rfl⟩ := open_opv h2
      exact ⟨o, ho, by rw [o.cells_len]; exact h1⟩
    obtain ⟨f, hf2⟩ := choose_lt each
    refine ⟨(List.range len).map f, some a, cap, by simp, fun o ho => ?_, ?_, fun h0 => ?_⟩
    · simp only [List.mem_map, List.mem_range] at ho
      obtain ⟨i, hi, rfl⟩ := ho
      exact (hf2 i hi).1
    · simp only [List.length_map, List.length_range]
      have : cap ≤ 9223372036854775807 := hm
      omega
    · simp only [List.length_map, List.length_range] at h0 ⊢
      obtain ⟨b, off, spot⟩ := a
      have h00 := (hf2 0 h0).2
      obtain ⟨_, _, hc0⟩ := World.cells?_some h00
      have hc00 := hc0 0 (by rw [OPV.cells_len]; omega)
      have hspot : spot = none := by
        have hsome : ((W.cell? (((⟨b, off, spot⟩ : Addr).add (0 * 265)).add 0))).isSome = true := by rw [hc00]; rfl
        obtain ⟨u, hu⟩ := Option.isSome_iff_exists.1 hsome
        simpa [Addr.add] using World.cell?_spot hu
      subst hspot
      refine ⟨b, off, rfl, ?_, fun i o hi => ?_⟩
      · have hsome : ((W.cell? (((⟨b, off, none⟩ : Addr).add (0 * 265)).add 0))).isSome = true := by rw [hc00]; rfl
        obtain ⟨u, hu⟩ := Option.isSome_iff_exists.1 hsome
        rw [Addr.add_mid, Addr.add_mid] at hu
        exact block_lt_of_cell hu
      · have hil : i < len := by
          have := (List.getElem?_eq_some_iff.1 hi).1
          simpa using this
        rw [List.getElem?_map, List.getElem?_range hil] at hi
        have ho : f i = o := by simpa using hi
        subst ho
        have h2 := (hf2 i hil).2
        rw [Addr.add_mid] at h2
        exact rangeAt_of_cells? h2
end Go.Proofs.Ytlccbgjlinlioaa
