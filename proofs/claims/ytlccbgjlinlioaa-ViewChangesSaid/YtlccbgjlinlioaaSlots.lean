/- The walk of the document's All: the slots, rising. -/
import Derived.Test.YtlccbgjlinlioaaSame
namespace Go.Proofs.Ytlccbgjlinlioaa
open Go.RowKit

def natInts (l : List Nat) : List Value := l.map fun k : Nat => .int .i64 (k : Int)
theorem natInts_len (l : List Nat) : (natInts l).length = l.length := by simp [natInts]
theorem natInts_app (a b : List Nat) : natInts (a ++ b) = natInts a ++ natInts b := by simp [natInts]
/-- a row of numbers that the call has made -/
def IntsAt (w : World) (B : Nat) (v : Value) (l : List Nat) : Prop := w.ownsRow B 3 1 v l.length (natInts l)
theorem IntsAt.nil (w : World) (B : Nat) : IntsAt w B (.slice none 0 0) [] := World.ownsRow_nil w B 3 1
theorem IntsAt.below {u u' : World} {B : Nat} {v : Value} {l : List Nat} (h : IntsAt u B v l) (hb : Below u.heap.size u u') : IntsAt u' B v l := by
  refine ⟨h.1, ?_⟩
  rcases h.2 with hn | ⟨g, cap, cur, rfl, hg, hh, rest⟩
  · exact .inl hn
  · refine .inr ⟨g, cap, cur, rfl, hg, (hb.block g ?_).trans hh, rest⟩
    rcases Nat.lt_or_ge g u.heap.size with hl | hl
    · exact hl
    · rw [Array.getElem?_eq_none hl] at hh; cases hh
theorem IntsAt.cell {w : World} {B g cap n : Nat} {l : List Nat} (h : IntsAt w B (.slice (some ⟨g, 0, none⟩) n cap) l) (i k : Nat) (hk : l[i]? = some k) : w.cell? ⟨g, i, none⟩ = some (.int .i64 (k : Int)) := by
  have hl := (List.getElem?_eq_some_iff.1 hk).1
  rcases h.2 with ⟨h1, _⟩ | ⟨g', cap', cur, e, _, hh, hcap, _, hsz, htk⟩
  · cases h1
  · have e2 : g' = g := by
      simp only [Value.slice.injEq, Option.some.injEq, Addr.mk.injEq] at e
      exact e.1.1.symm
    subst e2
    have hg : (natInts l)[i]? = some (.int .i64 (k : Int)) := by simp [natInts, hk]
    rw [← htk] at hg
    rw [cell_of_row _ _ _ _ _ _ hh]
    rw [List.getElem?_take_of_lt (by omega), Array.getElem?_toList] at hg
    exact hg

theorem IntsAt.mono {w : World} {B B' : Nat} {v : Value} {l : List Nat} (h : IntsAt w B v l) (hB : B' ≤ B) : IntsAt w B' v l := by
  refine ⟨h.1, ?_⟩
  rcases h.2 with hn | ⟨g, cap, cur, rfl, hg, rest⟩
  · exact .inl hn
  · exact .inr ⟨g, cap, cur, rfl, by omega, rest⟩

/-- where All's walk stands -/
structure AllS (w : World) (B : Nat) (bs : Array Value) (v : Value) (l : List Nat) (u : World) : Prop where
  row : IntsAt u (B + 1) v l
  below : Below B w u
  blk : u.heap[B]? = some (.cells bs 24 (0, 0))
theorem AllS.lt {w : World} {B : Nat} {bs : Array Value} {v : Value} {l : List Nat} {u : World} (h : AllS w B bs v l u) : B < u.heap.size := by
  have hb := h.blk
  rcases Nat.lt_or_ge B u.heap.size with h | h
  · exact h
  · rw [Array.getElem?_eq_none h] at hb; cases hb

theorem half_shift (x k : Nat) : x / 2 ^ k / 2 = x / 2 ^ (k + 1) := by rw [Nat.div_div_eq_div_mul, Nat.pow_succ]
theorem half_bit (x k : Nat) : (x / 2 ^ k % 2 = 1) ↔ x.testBit k = true := by
  rw [Nat.testBit_eq_decide_div_mod_eq]
  simp
theorem tdiv2 (k : Nat) : ((k : Int).tdiv 2) = ((k / 2 : Nat) : Int) := by rw [Int.tdiv_eq_ediv_of_nonneg (by omega)]; simp
theorem tmod2 (k : Nat) : ((k : Int).tmod 2) = ((k % 2 : Nat) : Int) := by rw [Int.tmod_eq_emod_of_nonneg (by omega)]; simp
theorem info3 : (Try.prog.info? 3).map (fun i => (i.zero, i.size, i.bytes)) = some (some (.int .i64 0), 1, 8) := by kernel_rfl
theorem under58 : Try.prog.underlying 58 = some (.slice 3) := by kernel_rfl

set_option maxRecDepth 100000 in
set_option maxHeartbeats 1600000 in
theorem slots_any {c : Nat → Nat} (hc : ∀ i, c i < 18446744073709551616) (w : World) :
    Calls Try.prog 24 #[.agg (wordsArr c)] w fun e w' => ∃ v, e = .returned v ∧ IntsAt w' w.heap.size v (slotsTo c 16384) ∧ Below w.heap.size w w' := by
  have HC := Lib.hid hc
  obtain ⟨i0, hi0, hz0, hz1, hz2⟩ := info_parts info3
  have HW : Hid (∀ q, q < 256 → (wordsArr c)[q]? = some (.int .u64 (c q : Int))) := fun q hq => by
    rw [show wordsArr c = (wordsList c).toArray from rfl, List.getElem?_toArray]
    exact wordsList_get c q hq
  have HS0 : Hid (AllS w w.heap.size (wordsArr c) (.slice none 0 0) (slotsTo c 0) (w.alloc (.cells (wordsArr c) 24))) := ⟨IntsAt.nil _ _, (Below.refl _ _).alloc (Nat.le_refl _) _, heap_alloc_new w _⟩
  generalize wordsArr c = bs at *
  clear hc
  go_enter Try.func24, Try.ntmps24
  go_wp2_with fail
  go_loopw [3, 4] (fun v i wr => ∃ q : Nat, q ≤ 256 ∧ i = .int .i64 q ∧ AllS w w.heap.size bs v (slotsTo c (64 * q)) wr) (fun _ i _ => 256 - (intOf i).toNat)
  case atStart => exact ⟨0, Nat.zero_le _, rfl, HS0.out⟩
  case round =>
    obtain ⟨q, hq, rfl, hs⟩ := hrel
    have HSq := Lib.hid hs
    by_cases hlt : q < 256
    · have hqi : (0 : Int) ≤ (q : Int) ∧ (q : Int) < 256 := by omega
      have e0 : wr.cell? ⟨w.heap.size, q, none⟩ = some (.int .u64 (c q : Int)) := by
        rw [cell_of_row _ _ _ _ _ _ hs.blk]
        exact HW.out q hlt
      have hxl := HC.out q
      clear hs
      go_wp2_with fail
      generalize wr = wo at *
      go_loopw [3, 5, 6] (fun v x5 c6 wx => ∃ k : Nat, k ≤ 64 ∧ c6 = .int .i64 k ∧ x5 = .int .u64 (c q / 2 ^ k : Nat) ∧ AllS w w.heap.size bs v (slotsTo c (64 * q + k)) wx) (fun _ _ c6 _ => 64 - (intOf c6).toNat)
      case atStart => exact ⟨0, Nat.zero_le _, rfl, by simp, HSq.out⟩
      case round =>
        obtain ⟨k, hk, rfl, rfl, hs⟩ := hrel
        have HSk := Lib.hid hs
        by_cases hx0 : c q / 2 ^ k = 0
        · have hskip : slotsTo c (64 * (q + 1)) = slotsTo c (64 * q + k) := by
            rw [show 64 * (q + 1) = 64 * q + k + (64 - k) by omega]
            refine slotsTo_skip c _ _ fun j h1 h2 => ?_
            unfold hasBit
            rw [show j / 64 = q by omega]
            have h3 : c q < 2 ^ k := by
              rcases Nat.lt_or_ge (c q) (2 ^ k) with h | h
              · exact h
              · have := Nat.div_pos h (Nat.two_pow_pos k)
                omega
            exact Nat.testBit_lt_two_pow (Nat.lt_of_lt_of_le h3 (Nat.pow_le_pow_right (by omega) (by omega)))
          have HSkip := Lib.hid hskip
          rw [hx0]
          clear hs hskip hx0
          go_wp2
          go_roundw
          case rel => exact ⟨q + 1, by omega, by go_num, by rw [HSkip.out]; exact HSk.out⟩
          case measure => simp [intOf]; omega
        · have hk2 : k < 64 := by
            rcases Nat.lt_or_ge k 64 with h | h
            · exact h
            · have hk64 : k = 64 := by omega
              subst hk64
              exact absurd (Nat.div_eq_of_lt (by simpa using HC.out q)) hx0
          have hlen : (slotsTo c (64 * q + k)).length ≤ 64 * q + k := by
            have := List.length_filter_le (hasBit c) (List.range (64 * q + k))
            simpa [slotsTo] using this
          have HHalf : Hid (c q / 2 ^ (k + 1) = c q / 2 ^ k / 2) := (half_shift _ _).symm
          have HBit : c q / 2 ^ k % 2 = 1 ↔ hasBit c (64 * q + k) = true := by
            unfold hasBit
            rw [show (64 * q + k) / 64 = q by omega, show (64 * q + k) % 64 = k by omega]
            exact half_bit _ _
          have HNext := Lib.hid (slotsTo_succ c (64 * q + k))
          have hltk := hs.lt
          have hxl2 : c q / 2 ^ k < 18446744073709551616 := Nat.lt_of_le_of_lt (Nat.div_le_self _ _) (HC.out q)
          generalize hxx : c q / 2 ^ k = x at *
          have hm := tmod2 x
          have hd := tdiv2 x
          clear hxx hs
          by_cases hb : x % 2 = 1
          · rw [hb] at hm
            have hn := HNext.out
            rw [if_pos (HBit.1 hb)] at hn
            have HN := Lib.hid hn
            clear hn HBit HNext
            generalize slotsTo c (64 * q + k) = l at *
            go_wp2_with (at_builtin; refine wpList_append_own _ rfl (.tmp 19) (.tmp 24) 58 rfl (w.heap.size + 1) 3 i0 _ 1 8 under58 hi0 hz0 hz1 hz2 rfl (by decide) _ l.length _ rfl (HSk.out.row.alloc _) ⟨wr.heap.size, 0, none⟩ 1 1 [.int .i64 ((64 * q + k : Nat) : Int)] rfl rfl ?c1 ?c2 (by unfold maxLen; omega) (by omega) (by simp; omega) ?_)
            case c1 =>
              intro j u hj
              match j, hj with
              | 0, hj => simp at hj; subst hj; rw [Go.WideShapes.add_plain, cell_of_row _ _ _ _ _ _ (heap_alloc_new wr _)]; simp
            case c2 => intro u hu; simp at hu; subst hu; rfl
            intro v' w3 hown' hgrow _
            have hst : AllS w w.heap.size bs v' (l ++ [64 * q + k]) w3 := by
              have hown2 : IntsAt w3 (w.heap.size + 1) v' (l ++ [64 * q + k]) := by
                unfold IntsAt
                rw [natInts_app, List.length_append]
                exact hown'
              refine ⟨hown2, (HSk.out.below.alloc (by omega) _).grown hgrow (by simp; omega) (fun k hk => by have := (World.ownsRow.lt HSk.out.row k hk).1; omega), ?_⟩
              rw [hgrow.block w.heap.size (by simp; omega) (fun e => by have := (World.ownsRow.lt HSk.out.row _ e.symm).1; omega)]
              rw [Below.heap_alloc _ _ _ (by omega)]
              exact HSk.out.blk
            have HSt := Lib.hid hst
            clear hown' hgrow hst
            go_wp2
            go_roundw
            case rel => exact ⟨k + 1, by omega, by go_num, by rw [HHalf.out]; go_num, by rw [← Nat.add_assoc, HN.out]; exact HSt.out⟩
            case measure => simp [intOf]; omega
          · have hb0 : x % 2 = 0 := by omega
            rw [hb0] at hm
            have hn := HNext.out
            rw [if_neg (fun h => hb (HBit.2 h)), List.append_nil] at hn
            have HN := Lib.hid hn
            clear hn HBit HNext hb
            go_wp2
            go_roundw
            case rel => exact ⟨k + 1, by omega, by go_num, by rw [HHalf.out]; go_num, by rw [← Nat.add_assoc, HN.out]; exact HSk.out⟩
            case measure => simp [intOf]; omega
    · have hq2 : q = 256 := by omega
      subst hq2
      go_wp2
      go_ret
      exact ⟨_, rfl, HSq.out.row.mono (by omega), HSq.out.below⟩
end Go.Proofs.Ytlccbgjlinlioaa
