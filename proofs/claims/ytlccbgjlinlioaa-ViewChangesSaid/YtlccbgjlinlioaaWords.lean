/- Slots as words: packing a predicate; the walk of Claims. -/
import Derived.Test.YtlccbgjlinlioaaBits
import Derived.Laws.Tables
namespace Go.Proofs.Ytlccbgjlinlioaa
open Go.RowKit

/-- the bits r < m of a predicate, as a number -/
def pack (f : Nat → Bool) : Nat → Nat
  | 0 => 0
  | m + 1 => if f m then pack f m ||| 2 ^ m else pack f m

theorem pack_bit (f : Nat → Bool) (m r : Nat) : (pack f m).testBit r = (decide (r < m) && f r) := by
  induction m with
  | zero => simp [pack]
  | succ m ih =>
    unfold pack
    by_cases hr : r = m
    · subst hr
      cases hf : f r with
      | true => simp [Nat.testBit_or]
      | false => simp [ih]
    · have e : decide (r < m + 1) = decide (r < m) := by apply decide_eq_decide.2; omega
      cases hf : f m with
      | true => simp [Nat.testBit_or, ih, e, Nat.testBit_two_pow]; intro h; exact absurd h.symm hr
      | false => simp [ih, e]

theorem pack_lt (f : Nat → Bool) (m : Nat) : pack f m < 2 ^ m := by
  refine Nat.lt_pow_two_of_testBit _ fun i hi => ?_
  rw [pack_bit, decide_eq_false (by omega)]
  rfl
theorem pack_lt64 (f : Nat → Bool) {m : Nat} (h : m ≤ 64) : pack f m < 18446744073709551616 :=
  Nat.lt_of_lt_of_le (pack_lt f m) (Nat.le_trans (Nat.pow_le_pow_right (by decide) h) (by decide))

/-- the words of a set of slots -/
def wordsOf (F : Nat → Bool) (i : Nat) : Nat := pack (fun r => F (64 * i + r)) 64
theorem wordsOf_lt (F : Nat → Bool) (i : Nat) : wordsOf F i < 18446744073709551616 := pack_lt64 _ (Nat.le_refl _)
theorem wordsOf_has (F : Nat → Bool) (k : Nat) : hasBit (wordsOf F) k = F k := by
  unfold hasBit wordsOf
  rw [pack_bit, decide_eq_true (by omega)]
  simp only [Bool.true_and]
  congr 1
  omega
theorem words_ext {c d : Nat → Nat} (hc : ∀ i, c i < 18446744073709551616) (hd : ∀ i, d i < 18446744073709551616) (h : ∀ k, k < 16384 → hasBit c k = hasBit d k) (i : Nat) (hi : i < 256) : c i = d i := by
  apply Nat.eq_of_testBit_eq
  intro r
  by_cases hr : r < 64
  · have := h (64 * i + r) (by omega)
    unfold hasBit at this
    rw [show (64 * i + r) / 64 = i by omega, show (64 * i + r) % 64 = r by omega] at this
    exact this
  · have h2 : 18446744073709551616 ≤ 2 ^ r := Nat.le_trans (show 18446744073709551616 ≤ 2 ^ 64 by decide) (Nat.pow_le_pow_right (by decide) (by omega))
    rw [Nat.testBit_lt_two_pow (Nat.lt_of_lt_of_le (hc i) h2), Nat.testBit_lt_two_pow (Nat.lt_of_lt_of_le (hd i) h2)]

/-- the words so far: slots below k -/
def wordsUp (F : Nat → Bool) (k i : Nat) : Nat := pack (fun r => F (64 * i + r)) (min 64 (k - 64 * i))
theorem wordsUp_zero (F : Nat → Bool) (i : Nat) : wordsUp F 0 i = 0 := by unfold wordsUp; rw [show min 64 (0 - 64 * i) = 0 by omega]; rfl
theorem wordsUp_lt (F : Nat → Bool) (k i : Nat) : wordsUp F k i < 18446744073709551616 := pack_lt64 _ (by omega)
theorem wordsUp_all (F : Nat → Bool) (i : Nat) (hi : i < 256) : wordsUp F 16384 i = wordsOf F i := by
  unfold wordsUp wordsOf
  rw [show min 64 (16384 - 64 * i) = 64 by omega]
theorem wordsUp_other (F : Nat → Bool) (k i : Nat) (h : i ≠ k / 64) : wordsUp F (k + 1) i = wordsUp F k i := by
  unfold wordsUp
  rw [show min 64 (k + 1 - 64 * i) = min 64 (k - 64 * i) by omega]
theorem wordsUp_here (F : Nat → Bool) (k : Nat) : wordsUp F (k + 1) (k / 64) = if F k then wordsUp F k (k / 64) ||| 2 ^ (k % 64) else wordsUp F k (k / 64) := by
  unfold wordsUp
  rw [show min 64 (k + 1 - 64 * (k / 64)) = k % 64 + 1 by omega, show min 64 (k - 64 * (k / 64)) = k % 64 by omega]
  conv => lhs; unfold pack
  rw [show 64 * (k / 64) + k % 64 = k by omega]

theorem or_word (x r : Nat) (hx : x < 18446744073709551616) (hr : r < 64) : bits .or .u64 (x : Int) (IntKind.u64.wrap (2 ^ r)) = ((x ||| 2 ^ r : Nat) : Int) := by
  have h2 : 2 ^ r < 18446744073709551616 := Nat.lt_of_lt_of_le (Nat.pow_lt_pow_right (by decide) hr) (by decide)
  have e : IntKind.u64.wrap (2 ^ r) = ((2 ^ r : Nat) : Int) := by
    rw [IntKind.wrap_u64, show (2 : Int) ^ r = ((2 ^ r : Nat) : Int) by simp]
    generalize 2 ^ r = P at *
    omega
  rw [e, u64_or_nat _ _ hx h2]
theorem or_word_lt (x r : Nat) (hx : x < 18446744073709551616) (hr : r < 64) : x ||| 2 ^ r < 18446744073709551616 :=
  Nat.or_lt_two_pow (n := 64) (by omega) (Nat.pow_lt_pow_right (by decide) hr)

/-- does node n own slot k? -/
def VS.owns (s : VS) (n : Int) (k : Nat) : Bool := decide (s.own k = n ∧ s.own k ≠ -1)

/-- the words in memory -/
structure WordsAt (w : World) (b : Nat) (c : Nat → Nat) : Prop where
  ex : ∃ cs : Array Value, w.heap[b]? = some (.cells cs 24 (0, 0)) ∧ BitsOf cs c

def zeroWords : Array Value := Array.replicate 256 (.int .u64 0)
theorem zero24 (w : World) : (zeroValue 24).run Try.prog w = .ok (.agg zeroWords) w := by kernel_rfl
theorem zeroWords_bits : BitsOf zeroWords fun _ => 0 := by
  refine ⟨by simp [zeroWords], fun i hi => ?_, fun i => by decide⟩
  unfold zeroWords
  rw [Array.getElem?_replicate, if_pos hi]
  rfl
theorem size24b : (Try.prog.info? 24).map (·.size) = some 256 := by kernel_rfl
theorem size77 : (Try.prog.info? 77).map (·.size) = some 16384 := by kernel_rfl

theorem BitsOf.oneCell {cs : Array Value} {c : Nat → Nat} (h : BitsOf cs c) : cs.all (·.oneCell') = true := by
  refine Array.all_eq_true_iff_forall_mem.2 fun u hu => ?_
  obtain ⟨i, hi, rfl⟩ := Array.mem_iff_getElem.1 hu
  have hs := h.size
  have e : ∀ v, cs[i]? = some v → cs[i] = v := fun v hv => by rw [Array.getElem?_eq_getElem hi] at hv; simpa using hv
  rw [e _ (h.word i (by omega))]
  rfl
theorem BitsOf.set {cs : Array Value} {c : Nat → Nat} (h : BitsOf cs c) (q v : Nat) (hq : q < 256) (hv : v < 18446744073709551616) : BitsOf (cs.setIfInBounds q (.int .u64 (v : Int))) (fun i => if i = q then v else c i) := by
  have hs := h.size
  refine ⟨by simp [hs], fun i hi => ?_, fun i => ?_⟩
  · rw [set_get (by omega)]
    by_cases e : q = i
    · subst e; simp
    · rw [if_neg e, h.word i hi, if_neg (fun x => e x.symm)]
  · split
    · exact hv
    · exact h.lt i

theorem results_cell1 {P : Program} {fn : Func} {p : Tmp} {ty : TypeId} (h : fn.results = #[.cell p ty]) (tmps : Array Value) (w : World) (a : Addr) (hp : tmps.getD p undef = .pointer (some a)) (v : Value) (hl : (loadVar ty a).run P w = .ok v w) :
    (results fn tmps).run P w = .ok v w := by
  simp only [results, h]
  simp only [Array.getD_eq_getD_getElem?] at hp
  simp [asAddr, hp, hl]

theorem results16 {w : World} {b : Nat} {cs : Array Value} (h : w.heap[b]? = some (.cells cs 24 (0, 0))) (hs : cs.size = 256) (tmps : Array Value) (h4 : tmps.getD 4 undef = .pointer (some ⟨b, 0, none⟩)) :
    (results Try.f16 tmps).run Try.prog w = .ok (.agg cs) w :=
  results_cell1 (p := 4) (ty := 24) rfl tmps w _ h4 _ (run_loadVar_row (P := Try.prog) w b 24 24 cs (0, 0) _ h Try.underlying24 rfl (by rw [hs]; exact size24b))

theorem index77 (cs : Array Value) (k : Nat) (v : Value) (hk : k < 16384) (h : cs[k]? = some v) (u : World) : (Instr.index 77 (.agg cs) (.int .i64 k)).run Try.prog u = .ok v u := by
  simp [Instr.index, run_underlying Try.underlying77, asIntOf, go_sem, part, h]
  intro hh
  omega

/-- words, written out -/
def wordsList (c : Nat → Nat) : List Value := (List.range 256).map fun i => .int .u64 (c i : Int)
def wordsArr (c : Nat → Nat) : Array Value := (wordsList c).toArray
theorem wordsList_len (c : Nat → Nat) : (wordsList c).length = 256 := by simp [wordsList]
theorem wordsList_get (c : Nat → Nat) (i : Nat) (hi : i < 256) : (wordsList c)[i]? = some (.int .u64 (c i : Int)) := by
  unfold wordsList
  rw [List.getElem?_map, List.getElem?_range hi]
  rfl
theorem wordsArr_bits {c : Nat → Nat} (h : ∀ i, c i < 18446744073709551616) : BitsOf (wordsArr c) c :=
  ⟨by simp [wordsArr, wordsList_len], fun i hi => by unfold wordsArr; rw [List.getElem?_toArray]; exact wordsList_get c i hi, h⟩
theorem BitsOf.arr {cs : Array Value} {c : Nat → Nat} (h : BitsOf cs c) : cs = wordsArr c := by
  apply Array.ext
  · rw [h.size]; simp [wordsArr, wordsList_len]
  · intro i h1 h2
    have e1 := h.word i (by rw [← h.size]; exact h1)
    have e2 := (wordsArr_bits h.lt).word i (by rw [← h.size]; exact h1)
    rw [Array.getElem?_eq_getElem h1] at e1
    rw [Array.getElem?_eq_getElem h2] at e2
    rw [Option.some.inj e1, Option.some.inj e2]

/-- a row of owners, as Claims reads it -/
def ownRow (s : VS) : List Value := (List.range 16384).map fun k => .int .i8 (s.own k)
theorem ownRow_len (s : VS) : (ownRow s).length = 16384 := by simp [ownRow]
theorem ownRow_get (s : VS) (k : Nat) (hk : k < 16384) : (ownRow s)[k]? = some (.int .i8 (s.own k)) := by
  unfold ownRow
  rw [List.getElem?_map, List.getElem?_range hk]
  rfl
theorem ViewAt.row {w : World} {g : Nat} {s : VS} (h : ViewAt w g s) : w.rangeAt g 1 (ownRow s) := fun j v hv => by
  have hj : j < 16384 := by
    rw [← ownRow_len s]
    exact (List.getElem?_eq_some_iff.1 hv).1
  rw [ownRow_get s j hj] at hv
  cases hv
  exact h.own j hj

theorem wordsUp_step (F : Nat → Bool) (k q r : Nat) (hq : q = k / 64) (hr : r = k % 64) (hF : F k = true) : wordsUp F (k + 1) = fun i => if i = q then wordsUp F k q ||| 2 ^ r else wordsUp F k i := by
  funext i
  subst hq hr
  by_cases h : i = k / 64
  · subst h; rw [wordsUp_here, if_pos hF, if_pos rfl]
  · rw [if_neg h, wordsUp_other F k i h]
theorem wordsUp_stay (F : Nat → Bool) (k : Nat) (hF : F k = false) : wordsUp F (k + 1) = wordsUp F k := by
  funext i
  by_cases h : i = k / 64
  · subst h; rw [wordsUp_here, if_neg (by rw [hF]; decide)]
  · rw [wordsUp_other F k i h]

set_option maxRecDepth 100000 in
set_option maxHeartbeats 1600000 in
theorem claims_any {w : World} {g : Nat} {s : VS} (h : ViewAt w g s) {M : Int} (hok : s.Ok M) (n : Int) :
    Calls Try.prog 16 #[.pointer (some ⟨g, 0, none⟩), .int .i64 n] w fun e w' => e = .returned (.agg (wordsArr (wordsOf (s.owns n)))) ∧ Below w.heap.size w w' := by
  have H := Lib.hid h
  have HOK := Lib.hid hok
  have hgl := h.lt
  have hz := zero24
  have HZ := Lib.hid zeroWords_bits
  have HZ0 : Hid (BitsOf zeroWords (wordsUp (s.owns n) 0)) := by
    refine ⟨zeroWords_bits.size, fun i hi => ?_, wordsUp_lt _ _⟩
    rw [zeroWords_bits.word i hi, wordsUp_zero]
  have hne : ¬ zeroWords = #[] := by
    intro e
    have := zeroWords_bits.size
    rw [e] at this
    simp at this
  generalize zeroWords = T at *
  have HR : Hid (((w.alloc (.cells T 24)).alloc (.cells T 24)).rangeAt g 1 (ownRow s)) := World.rangeAt_alloc (World.rangeAt_alloc h.row _) _
  have HS77 : Hid ((Try.prog.info? 77).map (·.size) = some (ownRow s).length) := by rw [ownRow_len]; exact size77
  have HL := Lib.hid (fun k hk => ownRow_get s k hk)
  have hll := ownRow_len s
  generalize ownRow s = L at *
  clear h hok
  go_enter Try.func16, Try.ntmps16
  go_wp2_with (with_reducible refine wpList_load_mid rfl 77 (.tmp 10) rfl g 1 rfl L _ HR.out Try.underlying77 rfl HS77.out ?_)
  have HLA : Hid (∀ k, k < 16384 → L.toArray[k]? = some (.int .i8 (s.own k))) := fun k hk => by rw [List.getElem?_toArray]; exact HL.out k hk
  go_loopw [12] (fun i wr => ∃ k : Nat, k ≤ 16384 ∧ i = .int .i64 k ∧ Below w.heap.size w wr ∧ wr.heap[w.heap.size]? = some (.cells T 24 (0, 0)) ∧ ∃ cs, wr.heap[w.heap.size + 1]? = some (.cells cs 24 (0, 0)) ∧ BitsOf cs (wordsUp (s.owns n) k)) (fun i _ => 16384 - (intOf i).toNat)
  case atStart =>
    refine ⟨0, Nat.zero_le _, rfl, (((Below.refl _ _).alloc (Nat.le_refl _) _).alloc (by simp) _), ?_, T, ?_, HZ0.out⟩
    · rw [Below.heap_alloc _ _ _ (by simp)]
      exact heap_alloc_new w _
    · have := heap_alloc_new (w.alloc (.cells T 24)) (.cells T 24)
      simpa using this
  case round =>
    obtain ⟨k, hk, rfl, hbel, hT, cs, hcs, hbits⟩ := hrel
    have HB := Lib.hid hbel
    have HT := Lib.hid hT
    have HCS := Lib.hid hcs
    have HBT := Lib.hid hbits
    by_cases hlt : k < 16384
    · have e1 := index77 _ k _ hlt (HLA.out k hlt)
      have ho := HOK.out.own k
      have hki : (0 : Int) ≤ (k : Int) ∧ (k : Int) < 16384 := by omega
      clear hbel hT hcs hbits
      obtain ⟨q, hq⟩ : ∃ q, q = k / 64 := ⟨_, rfl⟩
      obtain ⟨r, hr⟩ : ∃ r, r = k % 64 := ⟨_, rfl⟩
      have hqi : ((k : Int).tdiv 64) = q := by rw [hq]; exact tdiv64 k
      have hri : ((k : Int).tmod 64) = r := by rw [hr]; exact tmod64 k
      have hq2 : (0 : Int) ≤ q ∧ (q : Int) < 256 := by omega
      have hr2 : r < 64 := by omega
      by_cases hF : s.owns n k = true
      · have hF2 : s.own k = n ∧ s.own k ≠ -1 := of_decide_eq_true hF
        have hn := hF2.1
        have hb1 : (n == -1) = false := by rw [beq_eq_false_iff_ne]; omega
        have hb2 : (n != -1) = true := by simp; omega
        have c1 : wr.cell? ⟨w.heap.size + 1, q, none⟩ = some (.int .u64 (wordsUp (s.owns n) k q)) := by
          rw [cell_of_row _ _ _ _ _ _ HCS.out]
          exact HBT.out.word q (by omega)
        have z1 : wr.frozen? ⟨w.heap.size + 1, q, none⟩ = false := frozen_of_row wr _ q _ 24 HCS.out
        have hx := wordsUp_lt (s.owns n) k q
        rw [hn] at e1 ho
        generalize hX : wordsUp (s.owns n) k q = X at *
        have HSt := Lib.hid (wordsUp_step (s.owns n) k q r hq hr hF)
        rw [hX] at HSt
        clear hq hr
        go_wp2_with fail
        go_region
        all_goals go_wp2
        all_goals go_roundw
        case rel =>
          have HO := (Only.setCell wr (w.heap.size + 1) q (.int .u64 (bits .or .u64 (X : Int) (IntKind.u64.wrap (2 ^ r))))).drew
          refine ⟨k + 1, by omega, by go_num, HO.new HB.out (by omega) HB.out.size, (HO.block _ (by have := HB.out.size; have := (block_lt_of_cell c1); simp at this; omega) (by simp)).trans HT.out, _, heap_setCell_same wr _ q cs 24 _ HCS.out, ?_⟩
          rw [or_word X r hx hr2, HSt.out]
          exact HBT.out.set q _ (by omega) (or_word_lt X r hx hr2)
        case measure => simp [intOf]; omega
      · have hF1 : s.owns n k = false := by cases h : s.owns n k; rfl; exact absurd h hF
        have HSt := Lib.hid (wordsUp_stay (s.owns n) k hF1)
        have hF2 : ¬ (s.own k = n ∧ s.own k ≠ -1) := of_decide_eq_false hF1
        generalize s.own k = o at *
        by_cases hn : o = n
        · have hn1 : o = -1 := by
            rcases Decidable.em (o = -1) with h | h
            · exact h
            · exact absurd ⟨hn, h⟩ hF2
          subst hn1
          subst hn
          clear hq hr
          go_wp2
          go_roundw
          case rel => exact ⟨k + 1, by omega, by go_num, HB.out, HT.out, cs, HCS.out, by rw [HSt.out]; exact HBT.out⟩
          case measure => simp [intOf]; omega
        · have hn1 : (o == n) = false := by rw [beq_eq_false_iff_ne]; exact hn
          clear hq hr
          go_wp2
          go_roundw
          case rel => exact ⟨k + 1, by omega, by go_num, HB.out, HT.out, cs, HCS.out, by rw [HSt.out]; exact HBT.out⟩
          case measure => simp [intOf]; omega
    · have hk2 : k = 16384 := by omega
      subst hk2
      have HS24 : Hid ((Try.prog.info? 24).map (·.size) = some cs.size) := by rw [hbits.size]; exact size24b
      have HST : Hid (T.size = cs.size) := by rw [hbits.size]; exact HZ.out.size
      have H1 := Lib.hid hbits.oneCell
      clear hbel hT hcs hbits
      go_wp2_with (first
        | (with_reducible refine wpList_load_row rfl 24 (.tmp 5) rfl (w.heap.size + 1) rfl 24 cs (0, 0) _ HCS.out Try.underlying24 rfl HS24.out ?_)
        | (with_reducible refine wpList_store_row rfl 24 (.tmp 4) (.tmp 34) rfl w.heap.size cs rfl rfl 24 T HT.out HS24.out HST.out H1.out ?_))
      refine bodyPost_ret (results16 (setRow_heap _ _ _ _ _ _ HT.out) HBT.out.size _ rfl) rfl ?_
      have hbo : BitsOf cs (wordsOf (s.owns n)) := ⟨HBT.out.size, fun i hi => by rw [HBT.out.word i hi, wordsUp_all _ _ hi], wordsOf_lt _⟩
      exact ⟨by rw [← hbo.arr], below_setRow HB.out (Nat.le_refl _) _⟩
end Go.Proofs.Ytlccbgjlinlioaa
