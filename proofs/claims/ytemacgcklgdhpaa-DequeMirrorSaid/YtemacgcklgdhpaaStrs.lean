/- Slices of texts: what came in, what the call makes. -/
import Derived.Test.YtemacgcklgdhpaaDeq
import Derived.Laws.AppendOwnNone
namespace Go.Proofs.Ytemacgcklgdhpaa
open Go.RowKit

theorem Try.info9 : (Try.prog.info? 9).map (fun i => (i.zero, i.size, i.bytes)) = some (some (.string emptyS), 1, 16) := by kernel_rfl

def strVals (l : List ByteArray) : List Value := l.map Value.string

/-- a block of texts, not a deque -/
def Nine (w : World) (b : Nat) : Prop := ∃ cs fr, w.heap[b]? = some (.cells cs 9 fr)

/-- A slice value that holds these texts. -/
def StrsAt (w : World) (v : Value) (l : List ByteArray) : Prop :=
  (l = [] ∧ (v = .slice none 0 0 ∨ ∃ ad cap, v = .slice (some ad) 0 cap)) ∨
    ∃ b off cap, v = .slice (some ⟨b, off, none⟩) l.length cap ∧ l.length ≤ cap ∧ Nine w b ∧ ∀ i, i < l.length → w.cell? ⟨b, off + i, none⟩ = some (.string (l.getD i emptyS))

theorem StrsAt.below {w w' : World} {v : Value} {l : List ByteArray} (h : StrsAt w v l) (hb : Below w.heap.size w w') : StrsAt w' v l := by
  rcases h with h | ⟨b, off, cap, rfl, hcap, ⟨cs, fr, hn⟩, hc⟩
  · exact .inl h
  · refine .inr ⟨b, off, cap, rfl, hcap, ⟨cs, fr, (hb.block b (by rcases Nat.lt_or_ge b w.heap.size with h | h; exact h; rw [Array.getElem?_eq_none h] at hn; cases hn)).trans hn⟩, fun i hi => ?_⟩
    rw [hb.cell (p := ⟨b, off + i, none⟩) (block_lt_of_cell (hc i hi))]
    exact hc i hi

theorem strsAt_own {w : World} {B : Nat} {v : Value} {l : List ByteArray} (h : w.ownsRow B 9 1 v l.length (strVals l)) : StrsAt w v l := by
  rcases h.2 with ⟨rfl, h0⟩ | ⟨g, cap, cur, rfl, hg, hh, hn, hcap, hsz, htake⟩
  · exact .inl ⟨List.length_eq_zero_iff.1 h0, .inl rfl⟩
  · refine .inr ⟨g, 0, cap, rfl, hn, ⟨_, _, hh⟩, fun i hi => ?_⟩
    rw [Nat.zero_add, h.cellAt i (by omega)]
    simp [strVals, List.getElem?_eq_getElem hi]

theorem wpList_wanted {P : Program} {ops : Array Oper} {rest : List Oper} {o : Oper} {a : Act} {w : World} {Q : Exit → Act → World → Prop} (hw : Region.wanted o (yielded ops a.tmps) = true)
    (h : ∀ K : Act → World → Prop, (∀ a w, wpList P ops Q rest a w → K a w) → o.wp P a w K Q) : wpList P ops Q (o :: rest) a w :=
  wpList_step fun K hK => by rw [if_pos hw]; exact h K hK

theorem wpList_append_strs {ops : Array Oper} {rest : List Oper} {o : Oper} {a : Act} {w : World} {Q : Exit → Act → World → Prop} (hgd : Region.wanted o (yielded ops a.tmps) = true) (s x : Operand)
    (ho : o.op = .call { callee := .builtin .append, args := #[s, x], argTypes := #[22, 22] })
    (B : Nat) (v : Value) (n : Nat) (xs : List Value) (hs : a.eval s = v) (hown : w.ownsRow B 9 1 v n xs)
    (sv : Value) (l : List ByteArray) (hx : a.eval x = sv) (hsv : StrsAt w sv l) (hsum : n + l.length ≤ 1000000) (hbase : B ≤ w.heap.size)
    (h : ∀ v' w', w'.ownsRow B 9 1 v' (n + l.length) (xs ++ strVals l) → Below B w w' → wpList Try.prog ops Q rest (a.put o.dst v') w') : wpList Try.prog ops Q (o :: rest) a w := by
  obtain ⟨i0, hi, hz0, hz1, hz2⟩ := info_parts Try.info9
  refine wpList_wanted hgd fun K hK => ?_
  have hgrow : ∀ w', w.grownBy w' v.ownBlock → Below B w w' := by
    intro w' hg
    refine (Below.refl B w).grown hg hbase ?_
    intro k hk
    rcases hown.2 with ⟨rfl, _⟩ | ⟨g, cap, cur, rfl, hgB, _⟩
    · simp [Value.ownBlock] at hk
    · simp [Value.ownBlock] at hk; omega
  rcases hsv with ⟨rfl, rfl | ⟨ad, cap, rfl⟩⟩ | ⟨b, off, cap, rfl, _, _, hc⟩
  · have hrun := run_append_owned_none (P := Try.prog) (w := w) B 22 o.type 9 i0 1 Try.underlying22 hi v n xs hown
    unfold Oper.wp
    simp only [execOp, ho, resolve, invoke, builtin, Sem.run_bind, Sem.run_pure, Result.andThen_ok, List.map_toArray, List.map_cons, List.map_nil, hs, hx, hrun]
    exact hK _ _ (h v w (by simpa [strVals] using hown) (Below.refl _ _))
  · refine wp_append_own w s x 22 ho B 9 i0 (.string emptyS) 1 16 Try.underlying22 hi hz0 hz1 hz2 rfl (by decide) v n xs hs hown ad 0 cap [] hx rfl (fun j u hj => by simp at hj) (fun u hu => by simp at hu)
      (by unfold maxLen; omega) (by simp at hsum; omega) hbase fun v' w' h1 h2 _ => hK _ _ (h v' w' (by simpa [strVals] using h1) (hgrow w' h2))
  · refine wp_append_own w s x 22 ho B 9 i0 (.string emptyS) 1 16 Try.underlying22 hi hz0 hz1 hz2 rfl (by decide) v n xs hs hown ⟨b, off, none⟩ l.length cap (strVals l) hx (by simp [strVals]) (fun j u hj => ?_) (fun u hu => ?_)
      (by unfold maxLen; omega) (by omega) hbase fun v' w' h1 h2 _ => hK _ _ (h v' w' h1 (hgrow w' h2))
    · have hj' : j < l.length := by have := (List.getElem?_eq_some_iff.1 hj).1; simpa [strVals] using this
      rw [Go.WideShapes.add_plain, hc j hj', ← hj]
      simp [strVals, List.getElem?_eq_getElem hj']
    · simp only [strVals, List.mem_map] at hu
      obtain ⟨z, _, rfl⟩ := hu
      rfl

theorem strsAt_one (w : World) (s : ByteArray) : StrsAt (w.alloc (.cells #[.string s] 9)) (.slice (some ⟨w.heap.size, 0, none⟩) 1 1) [s] := by
  refine .inr ⟨w.heap.size, 0, 1, rfl, Nat.le_refl _, ⟨_, _, heap_alloc_new w _⟩, fun i hi => ?_⟩
  have hi' : i = 0 := by simp at hi; omega
  subst hi'
  rw [Nat.zero_add, World.cell?_alloc_mark]
  rfl

/-- a stretch of a row -/
def sub (l : List ByteArray) (a b : Nat) : List ByteArray := (l.drop a).take (b - a)

theorem sub_length (l : List ByteArray) (a b : Nat) (h : b ≤ l.length) : (sub l a b).length = b - a := by simp [sub]; omega
theorem sub_nil (l : List ByteArray) (a : Nat) : sub l a a = [] := by simp [sub]
theorem sub_snoc (l : List ByteArray) (a b : Nat) (hab : a ≤ b) (h : b < l.length) : sub l a (b + 1) = sub l a b ++ [l.getD b emptyS] := by
  unfold sub
  rw [show b + 1 - a = (b - a) + 1 by omega, List.take_add_one]
  congr 1
  rw [List.getElem?_drop, show a + (b - a) = b by omega, List.getElem?_eq_getElem h]
  simp [h]
theorem sub_all (l : List ByteArray) : sub l 0 l.length = l := by simp [sub]
end Go.Proofs.Ytemacgcklgdhpaa
