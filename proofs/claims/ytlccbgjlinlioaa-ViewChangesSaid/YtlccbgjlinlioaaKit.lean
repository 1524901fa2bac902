/- What each law's row asks beside its walk: the arguments read behind the call as before it. -/
import Derived.WalkKit
import Derived.ProofKit
import Derived.OpenShut
import Derived.SizedLaws
namespace Go.Proofs.Ytlccbgjlinlioaa.Kit
open Go.ChangeShapes Go.WideShapes Go.ChangeAt Go.RowKit

variable {H : Type} {enc : TypeId × Value → H} {P : Program}

/-- ARGS, all of them. -/
theorem trodAll_below (hl : laidOutB P = true) {W W' : World} (hb : Below W.heap.size W W') : ∀ (ts : List TypeId) (vs : List Value) (ds : List (DataW H)) (ps : List MemPlace),
    (∀ t ∈ ts, P.readableRec t = true ∧ t < P.types.size) → (∀ x ∈ ps, x.block < W.heap.size) → DataW.TrodAll enc P W 0 (fun _ => true) true ts vs ds ps →
    DataW.TrodAll enc P W' 0 (fun b => decide (b < W.heap.size)) true ts vs ds ps := by
  intro ts
  induction ts with
  | nil =>
    intro vs ds ps _ _ h
    obtain ⟨rfl, rfl, rfl⟩ := trodAll_nil h
    exact trodAll_mk0
  | cons t ts ih =>
    intro vs ds ps hr hp h
    obtain ⟨v, vs', d, ds', p, q, rfl, rfl, rfl, h1, h2⟩ := trodAll_cons h
    have ht := hr t (by simp)
    exact trodAll_cons_mk (Below.trod hl ht.1 ht.2 h1 hb (fun x hx => hp x (by simp [hx]))) (ih _ _ _ (fun u hu => hr u (by simp [hu])) (fun x hx => hp x (by simp [hx])) h2)

/-- A LAW's ROW: its walk returns true and leaves old memory alone. -/
theorem law_post (hl : laidOutB P = true) {fn : Func} {s : ChangeSpec} {W W' : World} {args : Array Value} {ds gs : List (DataW H)} {before : List MemPlace} {tb : TypeId} (hres : fn.resultTypes = #[tb]) (htb : P.underlying tb = some .bool)
    (hvars : s.vars = []) (hts : ∀ t ∈ fn.params.toList, P.readableRec t = true ∧ t < P.types.size)
    (hW : DataW.Whole enc P fn.params.toList s.vars false W args.toList ds gs before) (hs : s.fn H (ds ++ gs) = { results := [.lit (.bool true)], args := ds }) (hb : Below W.heap.size W W') :
    s.post enc P fn false true false false W args (.bool true) W' := by
  have hW' := hW
  obtain ⟨p, q, hA, hV, rfl, _, _⟩ := hW
  rw [hvars] at hV
  obtain ⟨rfl, rfl⟩ := trodVars_none hV
  refine ⟨ds, [], _, [], p, [], hW', ?_, ?_, ?_, hb.frame _, fun h => by cases h⟩
  · rw [hs, hres]
    exact trodAll_mk1 (shut_bool htb true)
  · rw [hs]
    exact trodAll_below hl hb _ _ _ _ hts (fun x hx => by simpa using hW'.lt x (by simp [hx])) hA
  · rw [hs, hvars]
    rfl

theorem okWide_array {w : World} {r : Reach} {base : Nat} {t e : TypeId} {n : Nat} {v : Value} (ht : P.underlying t = some (.array n e)) (h : Value.okWide P w r base t v) : ∃ cs, v = .agg cs ∧ cs.size = P.cellsOf t := by
  simp only [Value.okWide, ht] at h
  obtain ⟨cs, h1, h2, _⟩ := h
  exact ⟨cs, h1, h2⟩

/-- The number in a cell. -/
def intAt : Option Value → Int
  | some (Value.int _ z) => z
  | _ => 0

/-- An array of integers by value. -/
theorem open_int_array {w : World} {r : Reach} {base B n : Nat} {sp : Nat → Bool} {held : Bool} {t e : TypeId} {k : IntKind} {v : Value} {d : DataW H} {p : List MemPlace} (ht : P.underlying t = some (.array n e)) (he : P.underlying e = some (.int k))
    (hce : P.cellsOf e = 1) (hct : P.cellsOf t = n) (hv : Value.okWide P w r base t v) (h : DataW.Trod enc P w B sp held t v d p) :
    ∃ zs : List Int, v = .agg (zs.map (Value.int k)).toArray ∧ zs.length = n ∧ (∀ x ∈ zs, (Lit.int k x).wf = true) ∧ d = .agg (zs.map fun z => .lit (.int k z)) := by
  obtain ⟨cs, rfl, hs⟩ := okWide_array ht hv
  obtain ⟨fuel, hf⟩ := h
  obtain ⟨xs, m, _, hx, hl, hn, hat⟩ := DataW.trod_array ht hf
  simp only [Value.cells] at hf hl hat
  rw [hct] at hs hl
  have hz : ∀ i, i < n → ∃ z y, cs[i]? = some (.int k z) ∧ (Lit.int k z).wf = true ∧ xs[i]? = some y ∧ y.1 = .lit (.int k z) := by
    intro i hi
    have h1 := hat i hi
    rw [hce, Nat.mul_one] at h1
    obtain ⟨y, hy⟩ : ∃ y, xs[i]? = some y := ⟨_, List.getElem?_eq_getElem (by omega)⟩
    rw [hy] at h1
    obtain ⟨z, hc, hd, hwf⟩ := DataW.trod_int he h1
    refine ⟨z, y, ?_, hwf, hy, by rw [hd]⟩
    have h2 : (cs.toList.drop i).take 1 = [cs.toList[i]'(by simpa using by omega)] := by
      rw [List.drop_eq_getElem_cons (by simpa using by omega)]
      simp
    rw [h2] at hc
    have h3 : cs.toList[i]'(by simpa using by omega) = .int k z := by simpa using hc
    rw [Array.getElem?_eq_getElem (by omega)]
    rw [← h3]
    simp
  refine ⟨(List.range n).map fun i => intAt cs[i]?, ?_, by simp, ?_, ?_⟩
  · congr 1
    apply Array.ext
    · simp [hs]
    · intro i h1 h2
      obtain ⟨z, y, hc, _⟩ := hz i (by omega)
      have h3 : cs[i] = .int k z := by
        rw [Array.getElem?_eq_getElem h1] at hc
        simpa using hc
      simp [h3, hc, intAt]
  · intro x hx
    simp only [List.mem_map, List.mem_range] at hx
    obtain ⟨i, hi, rfl⟩ := hx
    obtain ⟨z, y, hc, hwf, _⟩ := hz i hi
    simpa [hc, intAt] using hwf
  · have hdd : d = .agg (xs.map (·.1)) := congrArg Prod.fst hx
    rw [hdd]
    congr 1
    apply List.ext_getElem
    · simp [hn]
    · intro i h1 h2
      obtain ⟨z, y, hc, _, hy, hyz⟩ := hz i (by simpa [hn] using h1)
      have h3 : xs[i]'(by simpa using h1) = y := by
        rw [List.getElem?_eq_getElem (by simpa using h1)] at hy
        simpa using hy
      simp [h3, hyz, hc, intAt]
end Go.Proofs.Ytlccbgjlinlioaa.Kit
