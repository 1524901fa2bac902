/- The contracts of the deque's methods, over a block that holds a row. -/
import Derived.Test.YtemacgcklgdhpaaPop
import Derived.Test.YtemacgcklgdhpaaMade
namespace Go.Proofs.Ytemacgcklgdhpaa
open Go.RowKit

/-- behind Push -/
def pushed (l : List ByteArray) (front : Bool) (s : ByteArray) : List ByteArray := if l.length < 256 then (if front then s :: l else l ++ [s]) else l
/-- behind Pop, and what it tells -/
def popped (l : List ByteArray) (front : Bool) : List ByteArray := if front then l.tail else l.dropLast
def popS (l : List ByteArray) (front : Bool) : ByteArray := if l.length = 0 then emptyS else l.getD (if front then 0 else l.length - 1) emptyS
/-- the place that is meant -/
def meant (n : Nat) (i : Int) : Option Nat := if 0 ≤ i ∧ i < n then some i.toNat else if i < 0 ∧ 0 ≤ i + n then some (i + n).toNat else none
def putP (l : List ByteArray) (i : Int) (s : ByteArray) : List ByteArray := match meant l.length i with | some k => l.set k s | none => l
def ranged (l : List ByteArray) (a b : Int) : List ByteArray := sub l (clampA a b l.length).toNat (clampB a b l.length).toNat

theorem meant_some {n : Nat} {i : Int} {k : Nat} (h : meant n i = some k) : k < n ∧ ((0 ≤ i ∧ i = k) ∨ (i < 0 ∧ i + n = k)) := by
  unfold meant at h
  split at h
  · simp at h; omega
  · split at h
    · simp at h; omega
    · simp at h
theorem meant_none {n : Nat} {i : Int} (h : meant n i = none) : (n : Int) ≤ i ∨ i + n < 0 := by
  unfold meant at h
  split at h
  · simp at h
  · split at h
    · simp at h
    · omega

theorem Dq.cells {w : World} {g : Nat} {l : List ByteArray} (h : Dq w g l) : ∃ cs f, w.heap[g]? = some (.cells cs 48 (0, 0)) ∧ Ring cs f l ∧
    w.cell? ⟨g, 256, none⟩ = some (.int .i64 f) ∧ w.cell? ⟨g, 257, none⟩ = some (.int .i64 l.length) ∧ (∀ i, w.frozen? ⟨g, i, none⟩ = false) := by
  obtain ⟨cs, f, hg, hr⟩ := h
  exact ⟨cs, f, hg, hr, Ring.cell hg hr.first, Ring.cell hg hr.many, fun i => frozen_of_row w g i cs 48 hg⟩

theorem Dq.lt {w : World} {g : Nat} {l : List ByteArray} (h : Dq w g l) : g < w.heap.size := by
  obtain ⟨cs, f, hg, hr, h6, _⟩ := h.cells
  exact block_lt_of_cell h6
theorem Dq.le {w : World} {g : Nat} {l : List ByteArray} (h : Dq w g l) : l.length ≤ 256 := by
  obtain ⟨cs, f, hg, hr⟩ := h
  exact hr.le
theorem Dq.below {w w' : World} {g : Nat} {l : List ByteArray} (h : Dq w g l) (hb : Below w.heap.size w w') : Dq w' g l := by
  have hlt := h.lt
  obtain ⟨cs, f, hg, hr⟩ := h
  exact ⟨cs, f, (hb.block g hlt).trans hg, hr⟩
theorem Dq.only {w w' : World} {g g' : Nat} {l : List ByteArray} (h : Dq w g l) (hb : Only w w' g') (hne : g ≠ g') : Dq w' g l := by
  have hlt := h.lt
  obtain ⟨cs, f, hg, hr⟩ := h
  exact ⟨cs, f, (hb.block g hlt (fun e => hne (by simpa using e))).trans hg, hr⟩

theorem dq_len {w : World} {g : Nat} {l : List ByteArray} (h : Dq w g l) : Calls Try.prog 13 #[.pointer (some ⟨g, 0, none⟩)] w fun e w' => e = .returned (.int .i64 l.length) ∧ w = w' := by
  obtain ⟨cs, f, hg, hr, h6, h7, hz⟩ := h.cells
  exact len_any g l.length w h7

theorem dq_push {w : World} {g : Nat} {l : List ByteArray} (h : Dq w g l) (front : Bool) (s : ByteArray) :
    Calls Try.prog 11 #[.pointer (some ⟨g, 0, none⟩), .bool front, .string s] w fun e w' => e = .returned (.bool (decide (l.length < 256))) ∧ Dq w' g (pushed l front s) ∧ Only w w' g := by
  obtain ⟨cs, f, hg, hr, h6, h7, hz⟩ := h.cells
  have hle := hr.le
  by_cases hl : l.length < 256
  · cases front with
    | false =>
      obtain ⟨old, ho⟩ := hr.strs ((f + l.length) % 256) (Nat.mod_lt _ (by decide))
      refine (push_back g f l.length _ s _ w h6 h7 hr.lt hl rfl (Ring.cell hg ho) hz).mono fun e w' ⟨he, hw⟩ => ?_
      have h1 := heap_setCell_same w g ((f + l.length) % 256) cs 48 (.string s) hg
      have h2 := heap_setCell_same _ g 257 _ 48 (.int .i64 ((l.length : Int) + 1)) h1
      refine ⟨by rw [he, decide_eq_true hl], ⟨_, f, by rw [hw.heap]; exact h2, ?_⟩, ((Only.setCell _ _ _ _).trans (Only.setCell _ _ _ _)).like hw⟩
      have := hr.back hl s
      simpa [pushed, hl] using this
    | true =>
      obtain ⟨old, ho⟩ := hr.strs ((f + 255) % 256) (Nat.mod_lt _ (by decide))
      refine (push_front g f l.length _ s _ w h6 h7 hr.lt hl rfl (Ring.cell hg ho) hz).mono fun e w' ⟨he, hw⟩ => ?_
      have h0 := heap_setCell_same w g 256 cs 48 (.int .i64 ((f + 255) % 256 : Nat)) hg
      have h1 := heap_setCell_same _ g ((f + 255) % 256) _ 48 (.string s) h0
      have h2 := heap_setCell_same _ g 257 _ 48 (.int .i64 ((l.length : Int) + 1)) h1
      refine ⟨by rw [he, decide_eq_true hl], ⟨_, (f + 255) % 256, by rw [hw.heap]; exact h2, ?_⟩, (((Only.setCell _ _ _ _).trans (Only.setCell _ _ _ _)).trans (Only.setCell _ _ _ _)).like hw⟩
      have := hr.front hl s
      simpa [pushed, hl] using this
  · have e : l.length = 256 := by omega
    rw [e] at h7
    refine (push_full g front s w h7).mono fun e' w' ⟨he, hw⟩ => ?_
    subst hw
    exact ⟨by rw [he, decide_eq_false hl], by unfold pushed; rw [if_neg hl]; exact h, Only.refl _ _⟩

theorem dq_pop {w : World} {g : Nat} {l : List ByteArray} (h : Dq w g l) (front : Bool) :
    Calls Try.prog 12 #[.pointer (some ⟨g, 0, none⟩), .bool front] w fun e w' => e = .returned (.tuple #[.string (popS l front), .bool (decide (0 < l.length))]) ∧ Dq w' g (popped l front) ∧ Only w w' g := by
  obtain ⟨cs, f, hg, hr, h6, h7, hz⟩ := h.cells
  have hle := hr.le
  by_cases hl : 0 < l.length
  · have hl0 : ¬ l.length = 0 := by omega
    cases front with
    | false =>
      obtain ⟨hc, hring⟩ := hr.popBack hl
      refine (pop_back g f l.length _ _ w h6 h7 hr.lt hl hle rfl (Ring.cell hg hc) hz).mono fun e w' ⟨he, hw⟩ => ?_
      subst hw
      have h1 := heap_setCell_same w g ((f + (l.length - 1)) % 256) cs 48 (.string emptyS) hg
      have h2 := heap_setCell_same _ g 257 _ 48 (.int .i64 ((l.length : Int) - 1)) h1
      exact ⟨by rw [he, decide_eq_true hl]; simp [popS, hl0], ⟨_, f, h2, by simpa [popped] using hring⟩, (Only.setCell _ _ _ _).trans (Only.setCell _ _ _ _)⟩
    | true =>
      obtain ⟨hc, hring⟩ := hr.popFront hl
      refine (pop_front g f l.length _ _ w h6 h7 hr.lt hl hle rfl (Ring.cell hg hc) hz).mono fun e w' ⟨he, hw⟩ => ?_
      subst hw
      have h0 := heap_setCell_same w g 256 cs 48 (.int .i64 ((f + 1) % 256 : Nat)) hg
      have h1 := heap_setCell_same _ g f _ 48 (.string emptyS) h0
      have h2 := heap_setCell_same _ g 257 _ 48 (.int .i64 ((l.length : Int) - 1)) h1
      exact ⟨by rw [he, decide_eq_true hl]; simp [popS, hl0], ⟨_, (f + 1) % 256, h2, by simpa [popped] using hring⟩, ((Only.setCell _ _ _ _).trans (Only.setCell _ _ _ _)).trans (Only.setCell _ _ _ _)⟩
  · have e : l = [] := List.eq_nil_of_length_eq_zero (by omega)
    subst e
    refine (pop_none g front w h7).mono fun e' w' ⟨he, hw⟩ => ?_
    subst hw
    exact ⟨by rw [he]; simp [popS], by unfold popped; cases front <;> exact h, Only.refl _ _⟩

theorem dq_at {w : World} {g : Nat} {l : List ByteArray} (h : Dq w g l) (i : Int) (hi : -9223372036854775808 ≤ i) :
    Calls Try.prog 23 #[.pointer (some ⟨g, 0, none⟩), .int .i64 i] w fun e w' => e = .returned (.tuple #[.string (match meant l.length i with | some k => l.getD k emptyS | none => emptyS), .bool (meant l.length i).isSome]) ∧ w = w' := by
  obtain ⟨cs, f, hg, hr, h6, h7, hz⟩ := h.cells
  have hle := hr.le
  cases hm : meant l.length i with
  | some k =>
    obtain ⟨hk, hik⟩ := meant_some hm
    exact at_in g _ i _ w (place_in g f l.length i k w h6 h7 hr.lt hle hik hk) (Nat.mod_lt _ (by decide)) (Ring.cell hg (hr.row k hk))
  | none => exact at_out g i w (place_out g l.length i w h7 hle hi (meant_none hm))

theorem dq_put {w : World} {g : Nat} {l : List ByteArray} (h : Dq w g l) (i : Int) (s : ByteArray) (hi : -9223372036854775808 ≤ i) :
    Calls Try.prog 24 #[.pointer (some ⟨g, 0, none⟩), .int .i64 i, .string s] w fun e w' => e = .returned (.bool (meant l.length i).isSome) ∧ Dq w' g (putP l i s) ∧ Only w w' g := by
  obtain ⟨cs, f, hg, hr, h6, h7, hz⟩ := h.cells
  have hle := hr.le
  unfold putP
  cases hm : meant l.length i with
  | some k =>
    obtain ⟨hk, hik⟩ := meant_some hm
    refine (put_in g _ i s _ w (place_in g f l.length i k w h6 h7 hr.lt hle hik hk) (Nat.mod_lt _ (by decide)) (Ring.cell hg (hr.row k hk)) (hz _)).mono fun e w' ⟨he, hw⟩ => ?_
    subst hw
    exact ⟨he, ⟨_, f, heap_setCell_same w g _ cs 48 (.string s) hg, hr.put k hk s⟩, Only.setCell _ _ _ _⟩
  | none =>
    refine (put_out g i s w (place_out g l.length i w h7 hle hi (meant_none hm))).mono fun e w' ⟨he, hw⟩ => ?_
    subst hw
    exact ⟨he, h, Only.refl _ _⟩

theorem dq_range {w : World} {g : Nat} {l : List ByteArray} (h : Dq w g l) (a b : Int) (ha : -9223372036854775808 ≤ a) (hb : -9223372036854775808 ≤ b) :
    Calls Try.prog 16 #[.pointer (some ⟨g, 0, none⟩), .int .i64 a, .int .i64 b] w fun e w' => ∃ v, e = .returned v ∧ StrsAt w' v (ranged l a b) ∧ Below w.heap.size w w' := by
  obtain ⟨cs, f, hg, hr, h6, h7, hz⟩ := h.cells
  have hbd := clamp_bounds a b l.length (by omega)
  exact range_walk g f l a b _ _ w h6 h7 hr.lt hr.le (fun i hi => Ring.cell hg (hr.row i hi)) ha hb (by omega) (by omega)

theorem ranged_le (l : List ByteArray) (a b : Int) : (ranged l a b).length ≤ l.length := by
  have hbd := clamp_bounds a b l.length (by omega)
  unfold ranged
  rw [sub_length _ _ _ (by omega)]
  omega

theorem dq_trim {w : World} {g : Nat} {l : List ByteArray} (h : Dq w g l) (a b : Int) (ha : -9223372036854775808 ≤ a) (hb : -9223372036854775808 ≤ b) :
    Calls Try.prog 18 #[.pointer (some ⟨g, 0, none⟩), .int .i64 a, .int .i64 b] w fun e w' => e = .returned (.tuple #[]) ∧ Dq w' g (ranged l a b) ∧ Only w w' g := by
  have hL := Nat.le_trans (ranged_le l a b) h.le
  have hr := dq_range h a b ha hb
  obtain ⟨cs, f, hg, hring⟩ := h
  refine (trim_walk g cs a b (ranged l a b) w hg hring.size hL hr).mono fun e w' ⟨he, h1, h2⟩ => ?_
  exact ⟨he, ⟨_, 0, h1, Ring.trimmed _ hL⟩, h2⟩

theorem dq_new (w : World) : Calls Try.prog 9 #[] w fun e w' => e = .returned (.pointer (some ⟨w.heap.size, 0, none⟩)) ∧ Dq w' w.heap.size [] ∧ Below w.heap.size w w' ∧ w.heap.size < w'.heap.size := by
  refine (new_walk w).mono fun e w' ⟨he, hw⟩ => ?_
  subst hw
  exact ⟨he, ⟨_, 0, heap_alloc_new w _, Ring.trimmed [] (by simp)⟩, (Below.refl _ _).alloc (Nat.le_refl _) _, by simp⟩

theorem Ring.oneCell {cs : Array Value} {f : Nat} {l : List ByteArray} (h : Ring cs f l) : cs.all (·.oneCell') = true := by
  refine Array.all_eq_true_iff_forall_mem.2 fun u hu => ?_
  obtain ⟨i, hi, rfl⟩ := Array.mem_iff_getElem.1 hu
  have hs := h.size
  have e : ∀ v, cs[i]? = some v → cs[i] = v := fun v hv => by rw [Array.getElem?_eq_getElem hi] at hv; simpa using hv
  by_cases h1 : i < 256
  · obtain ⟨s, hs'⟩ := h.strs i h1
    rw [e _ hs']; rfl
  · by_cases h2 : i = 256
    · subst h2; rw [e _ h.first]; rfl
    · have h3 : i = 257 := by omega
      subst h3; rw [e _ h.many]; rfl

theorem dq_clone {w : World} {g : Nat} {l : List ByteArray} (h : Dq w g l) :
    Calls Try.prog 19 #[.pointer (some ⟨g, 0, none⟩)] w fun e w' => e = .returned (.pointer (some ⟨w.heap.size, 0, none⟩)) ∧ Dq w' w.heap.size l ∧ Below w.heap.size w w' ∧ w.heap.size < w'.heap.size := by
  obtain ⟨cs, f, hg, hr⟩ := h
  refine (clone_walk g cs w hg hr.size hr.oneCell).mono fun e w' ⟨he, hw⟩ => ?_
  subst hw
  refine ⟨he, ⟨cs, f, setRow_heap _ _ _ _ _ _ (heap_alloc_new w _), hr⟩, below_setRow ((Below.refl _ _).alloc (Nat.le_refl _) _) (Nat.le_refl _) _, by simp [World.setRow]⟩
end Go.Proofs.Ytemacgcklgdhpaa
