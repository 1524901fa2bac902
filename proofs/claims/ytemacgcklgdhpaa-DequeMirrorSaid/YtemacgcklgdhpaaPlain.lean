/- A row that lies in a ring of 256 cells: plain law, no program in sight. -/
import GoSem.Step
namespace Go.Proofs.Ytemacgcklgdhpaa
open Go

def emptyS : ByteArray := ⟨#[]⟩

/-- The cells of a deque: the ring, where it begins, how many. -/
structure Ring (cs : Array Value) (f : Nat) (l : List ByteArray) : Prop where
  size : cs.size = 258
  first : cs[256]? = some (.int .i64 (f : Int))
  many : cs[257]? = some (.int .i64 (l.length : Int))
  lt : f < 256
  le : l.length ≤ 256
  strs : ∀ i, i < 256 → ∃ s, cs[i]? = some (.string s)
  row : ∀ i, i < l.length → cs[(f + i) % 256]? = some (.string (l.getD i emptyS))

theorem set_get {cs : Array Value} {i j : Nat} {v : Value} (h : i < cs.size) : (cs.setIfInBounds i v)[j]? = if i = j then some v else cs[j]? := by
  rw [Array.getElem?_setIfInBounds]
  by_cases e : i = j
  · subst e; simp [h]
  · simp [e]

theorem Ring.strs_set {cs : Array Value} (hs : cs.size = 258) (h : ∀ i, i < 256 → ∃ s, cs[i]? = some (.string s)) (k : Nat) (s : ByteArray) (hk : k < 258) :
    ∀ i, i < 256 → ∃ s', (cs.setIfInBounds k (.string s))[i]? = some (.string s') := by
  intro i hi
  rw [set_get (by omega)]
  by_cases e : k = i
  · exact ⟨s, by rw [if_pos e]⟩
  · rw [if_neg e]; exact h i hi

theorem Ring.strs_num {cs : Array Value} (hs : cs.size = 258) (h : ∀ i, i < 256 → ∃ s, cs[i]? = some (.string s)) (k : Nat) (v : Value) (hk : k = 256 ∨ k = 257) :
    ∀ i, i < 256 → ∃ s', (cs.setIfInBounds k v)[i]? = some (.string s') := by
  intro i hi
  rw [set_get (by omega), if_neg (by omega)]
  exact h i hi

theorem getD_append_last (l : List ByteArray) (s : ByteArray) (i : Nat) (h : i < (l ++ [s]).length) : (l ++ [s]).getD i emptyS = if i = l.length then s else l.getD i emptyS := by
  simp only [List.length_append, List.length_cons, List.length_nil] at h
  by_cases e : i = l.length
  · subst e; simp
  · rw [if_neg e]
    simp only [List.getD]
    rw [List.getElem?_append_left (by omega)]

theorem Ring.back {cs : Array Value} {f : Nat} {l : List ByteArray} (h : Ring cs f l) (hl : l.length < 256) (s : ByteArray) :
    Ring ((cs.setIfInBounds ((f + l.length) % 256) (.string s)).setIfInBounds 257 (.int .i64 ((l.length : Int) + 1))) f (l ++ [s]) := by
  have hs := h.size
  have hm : (f + l.length) % 256 < 256 := Nat.mod_lt _ (by decide)
  refine ⟨by simp [hs], ?_, ?_, h.lt, by simp; omega, ?_, ?_⟩
  · rw [set_get (by simp [hs]), if_neg (by decide), set_get (by omega), if_neg (by omega)]
    exact h.first
  · rw [set_get (by simp [hs]), if_pos rfl]
    simp
  · exact Ring.strs_num (by simp [hs]) (Ring.strs_set hs h.strs _ _ (by omega)) 257 _ (.inr rfl)
  · intro i hi
    rw [set_get (by simp [hs]), if_neg (by omega), set_get (by omega), getD_append_last _ _ _ hi]
    simp only [List.length_append, List.length_cons, List.length_nil] at hi
    by_cases e : i = l.length
    · subst e; rw [if_pos rfl, if_pos rfl]
    · rw [if_neg (by have := h.lt; omega), if_neg e]
      exact h.row i (by omega)

theorem Ring.front {cs : Array Value} {f : Nat} {l : List ByteArray} (h : Ring cs f l) (hl : l.length < 256) (s : ByteArray) :
    Ring (((cs.setIfInBounds 256 (.int .i64 (((f + 255) % 256 : Nat) : Int))).setIfInBounds ((f + 255) % 256) (.string s)).setIfInBounds 257 (.int .i64 ((l.length : Int) + 1))) ((f + 255) % 256) (s :: l) := by
  have hs := h.size
  have hf := h.lt
  have hm : (f + 255) % 256 < 256 := Nat.mod_lt _ (by decide)
  refine ⟨by simp [hs], ?_, ?_, hm, by simp; omega, ?_, ?_⟩
  · rw [set_get (by simp [hs]), if_neg (by decide), set_get (by simp [hs]; omega), if_neg (by omega), set_get (by simp [hs]), if_pos rfl]
  · rw [set_get (by simp [hs]), if_pos rfl]
    simp
  · exact Ring.strs_num (by simp [hs]) (Ring.strs_set (by simp [hs]) (Ring.strs_num hs h.strs 256 _ (.inl rfl)) _ _ (by omega)) 257 _ (.inr rfl)
  · intro i hi
    simp only [List.length_cons] at hi
    rw [set_get (by simp [hs]), if_neg (by omega), set_get (by simp [hs]; omega)]
    cases i with
    | zero => rw [if_pos (by omega)]; simp
    | succ i =>
      rw [if_neg (by omega), set_get (by simp [hs]), if_neg (by omega), List.getD_cons_succ]
      have := h.row i (by omega)
      rw [show ((f + 255) % 256 + (i + 1)) % 256 = (f + i) % 256 by omega]
      exact this

theorem Ring.popBack {cs : Array Value} {f : Nat} {l : List ByteArray} (h : Ring cs f l) (hl : 0 < l.length) :
    cs[(f + (l.length - 1)) % 256]? = some (.string (l.getD (l.length - 1) emptyS)) ∧
    Ring ((cs.setIfInBounds ((f + (l.length - 1)) % 256) (.string emptyS)).setIfInBounds 257 (.int .i64 ((l.length : Int) - 1))) f l.dropLast := by
  have hs := h.size
  have hf := h.lt
  have hle := h.le
  have hm : (f + (l.length - 1)) % 256 < 256 := Nat.mod_lt _ (by decide)
  refine ⟨h.row _ (by omega), by simp [hs], ?_, ?_, hf, by simp; omega, ?_, ?_⟩
  · rw [set_get (by simp [hs]), if_neg (by decide), set_get (by omega), if_neg (by omega)]
    exact h.first
  · rw [set_get (by simp [hs]), if_pos rfl]
    simp only [List.length_dropLast]
    congr 2
    omega
  · exact Ring.strs_num (by simp [hs]) (Ring.strs_set hs h.strs _ _ (by omega)) 257 _ (.inr rfl)
  · intro i hi
    simp only [List.length_dropLast] at hi
    rw [set_get (by simp [hs]), if_neg (by omega), set_get (by omega), if_neg (by omega), h.row i (by omega)]
    have : i < l.length := by omega
    simp [List.getD, hi, this]

theorem Ring.popFront {cs : Array Value} {f : Nat} {l : List ByteArray} (h : Ring cs f l) (hl : 0 < l.length) :
    cs[f]? = some (.string (l.getD 0 emptyS)) ∧
    Ring (((cs.setIfInBounds 256 (.int .i64 (((f + 1) % 256 : Nat) : Int))).setIfInBounds f (.string emptyS)).setIfInBounds 257 (.int .i64 ((l.length : Int) - 1))) ((f + 1) % 256) l.tail := by
  have hs := h.size
  have hf := h.lt
  have hle := h.le
  have hm : (f + 1) % 256 < 256 := Nat.mod_lt _ (by decide)
  refine ⟨by have := h.row 0 hl; rwa [show (f + 0) % 256 = f by omega] at this, by simp [hs], ?_, ?_, hm, by simp; omega, ?_, ?_⟩
  · rw [set_get (by simp [hs]), if_neg (by decide), set_get (by simp [hs]; omega), if_neg (by omega), set_get (by simp [hs]), if_pos rfl]
  · rw [set_get (by simp [hs]), if_pos rfl]
    simp only [List.length_tail]
    congr 2
    omega
  · exact Ring.strs_num (by simp [hs]) (Ring.strs_set (by simp [hs]) (Ring.strs_num hs h.strs 256 _ (.inl rfl)) _ _ (by omega)) 257 _ (.inr rfl)
  · intro i hi
    simp only [List.length_tail] at hi
    rw [set_get (by simp [hs]), if_neg (by omega), set_get (by simp [hs]; omega), if_neg (by omega), set_get (by simp [hs]), if_neg (by omega)]
    rw [show ((f + 1) % 256 + i) % 256 = (f + (i + 1)) % 256 by omega, h.row (i + 1) (by omega)]
    simp [List.getD]

theorem Ring.put {cs : Array Value} {f : Nat} {l : List ByteArray} (h : Ring cs f l) (k : Nat) (hk : k < l.length) (s : ByteArray) :
    Ring (cs.setIfInBounds ((f + k) % 256) (.string s)) f (l.set k s) := by
  have hs := h.size
  have hf := h.lt
  have hle := h.le
  have hm : (f + k) % 256 < 256 := Nat.mod_lt _ (by decide)
  refine ⟨by simp [hs], ?_, ?_, hf, by simpa using hle, Ring.strs_set hs h.strs _ _ (by omega), ?_⟩
  · rw [set_get (by omega), if_neg (by omega)]
    exact h.first
  · rw [set_get (by omega), if_neg (by omega)]
    simpa using h.many
  · intro i hi
    simp only [List.length_set] at hi
    rw [set_get (by omega)]
    by_cases e : k = i
    · subst e; rw [if_pos rfl]; simp [hk]
    · rw [if_neg (by omega), h.row i hi]
      simp [List.getD, List.getElem?_set_ne e]

/-- a ring that was laid anew: what a trim leaves -/
def trimmed (l : List ByteArray) : Array Value := (l.map Value.string ++ List.replicate (256 - l.length) (Value.string emptyS) ++ [Value.int .i64 0, Value.int .i64 (l.length : Int)]).toArray

theorem Ring.trimmed (l : List ByteArray) (hl : l.length ≤ 256) : Ring (trimmed l) 0 l := by
  have e : (256 : Nat) = l.length + (256 - l.length) := by omega
  refine ⟨by simp [Ytemacgcklgdhpaa.trimmed]; omega, ?_, ?_, by decide, hl, ?_, ?_⟩
  · simp only [Ytemacgcklgdhpaa.trimmed, List.getElem?_toArray]
    rw [List.getElem?_append_right (by simp; omega)]
    simp
    rw [show 256 - (l.length + (256 - l.length)) = 0 by omega]; rfl
  · simp only [Ytemacgcklgdhpaa.trimmed, List.getElem?_toArray]
    rw [List.getElem?_append_right (by simp; omega)]
    simp
    rw [show 257 - (l.length + (256 - l.length)) = 1 by omega]; rfl
  · intro i hi
    simp only [Ytemacgcklgdhpaa.trimmed, List.getElem?_toArray]
    rw [List.getElem?_append_left (by simp; omega)]
    by_cases h : i < l.length
    · exact ⟨l[i], by rw [List.getElem?_append_left (by simpa using h)]; simp [h]⟩
    · exact ⟨emptyS, by rw [List.getElem?_append_right (by simpa using Nat.not_lt.1 h)]; simp [List.getElem?_replicate]; omega⟩
  · intro i hi
    rw [show (0 + i) % 256 = i by omega]
    simp only [Ytemacgcklgdhpaa.trimmed, List.getElem?_toArray]
    rw [List.getElem?_append_left (by simp; omega), List.getElem?_append_left (by simpa using hi)]
    simp [hi]
end Go.Proofs.Ytemacgcklgdhpaa
