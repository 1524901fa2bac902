/- The walk of each: what is done to every slot of the bits, rising. -/
import Derived.Test.YtlccbgjlinlioaaRanges
namespace Go.Proofs.Ytlccbgjlinlioaa
open Go.RowKit

/-- what the walk of each keeps of a world: blocks from B on, and the outside -/
structure Keep (B : Nat) (u u' : World) : Prop where
  os : u'.os = u.os
  tape : u'.tape = u.tape
  output : u'.output = u.output
  size : u.heap.size ≤ u'.heap.size
  block : ∀ i, B ≤ i → i < u.heap.size → u'.heap[i]? = u.heap[i]?

/-- a closure's contract, one slot -/
def StepOk (f : FuncId) (caps : Array Value) (c : Nat → Nat) (B : Nat) (J : List Nat → World → Prop) : Prop :=
  ∀ (done : List Nat) (k : Nat) (u : World), J done u → hasBit c k = true → k < 16384 → B ≤ u.heap.size →
    Calls Try.prog f (#[.int .i64 (k : Int)] ++ caps) u fun e u' => e = .returned (.tuple #[]) ∧ J (done ++ [k]) u' ∧ Keep B u u'

theorem Keep.refl (B : Nat) (u : World) : Keep B u u := ⟨rfl, rfl, rfl, Nat.le_refl _, fun _ _ _ => rfl⟩
theorem Keep.trans {B : Nat} {a b c : World} (h : Keep B a b) (k : Keep B b c) : Keep B a c :=
  ⟨k.os.trans h.os, k.tape.trans h.tape, k.output.trans h.output, Nat.le_trans h.size k.size, fun i h1 h2 => (k.block i h1 (Nat.lt_of_lt_of_le h2 h.size)).trans (h.block i h1 h2)⟩
theorem Below.keep {B : Nat} {u u' : World} (h : Below u.heap.size u u') : Keep B u u' := ⟨h.os, h.tape, h.output, h.size, fun i _ h2 => h.block i h2⟩

theorem ownsRow_keep {u u' : World} {B B1 : Nat} {e : TypeId} {size : Nat} {v : Value} {n : Nat} {xs : List Value} (h : u.ownsRow B1 e size v n xs) (hB : B ≤ B1) (hk : Keep B u u') : u'.ownsRow B1 e size v n xs := by
  refine ⟨h.1, ?_⟩
  rcases h.2 with hn | ⟨g, cap, cur, rfl, hg, hh, rest⟩
  · exact .inl hn
  · have hlt : g < u.heap.size := by
      rcases Nat.lt_or_ge g u.heap.size with h | h
      · exact h
      · rw [Array.getElem?_eq_none h] at hh; cases hh
    exact .inr ⟨g, cap, cur, rfl, hg, (hk.block g (by omega) hlt).trans hh, rest⟩

theorem own_form {u : World} {B1 : Nat} {e : TypeId} {size : Nat} {v : Value} {n : Nat} {xs : List Value} (h : u.ownsRow B1 e size v n xs) :
    ∃ sp cap, v = .slice sp n cap ∧ (0 < n → ∃ g, sp = some ⟨g, 0, none⟩) := by
  rcases h.2 with ⟨rfl, rfl⟩ | ⟨g, cap, cur, rfl, _⟩
  · exact ⟨_, _, rfl, fun h => absurd h (Nat.lt_irrefl _)⟩
  · exact ⟨_, _, rfl, fun _ => ⟨g, rfl⟩⟩

/-- the slots a .. m - 1 -/
def upTo (a m : Nat) : List Nat := (List.range (m - a)).map (a + ·)
theorem upTo_succ (a m : Nat) (h : a ≤ m) : upTo a (m + 1) = upTo a m ++ [m] := by
  unfold upTo
  rw [show m + 1 - a = (m - a) + 1 by omega, List.range_succ, List.map_append]
  simp
  omega
theorem upTo_self (a : Nat) : upTo a a = [] := by simp [upTo]
theorem flat_take (rs : List (Nat × Nat)) (i : Nat) (r : Nat × Nat) (h : rs[i]? = some r) : flat (rs.take (i + 1)) = flat (rs.take i) ++ upTo r.1 (r.2 + 1) := by
  rw [List.take_add_one, h, flat_append]
  congr 1
  simp [flat, span, upTo]
theorem RInv.has {c : Nat → Nat} {n : Nat} {rs : List (Nat × Nat)} (h : RInv c n rs) {r : Nat × Nat} (hr : r ∈ rs) {m : Nat} (h1 : r.1 ≤ m) (h2 : m ≤ r.2) : hasBit c m = true := by
  have hm : m ∈ Ytlccbgjlinlioaa.flat rs := by
    unfold Ytlccbgjlinlioaa.flat
    refine List.mem_flatMap.2 ⟨r, hr, ?_⟩
    unfold span
    exact List.mem_map.2 ⟨m - r.1, List.mem_range.2 (by omega), by omega⟩
  rw [h.all] at hm
  exact (List.mem_filter.1 hm).2

set_option maxRecDepth 100000 in
set_option maxHeartbeats 1600000 in
theorem each3_any (f : FuncId) (hcall : ∀ (args : Array Value) (u : World), (callFunc f args).run Try.prog u = .ok (.enter f args) u) (p1 p2 p3 : Value) {bs : Array Value} {c : Nat → Nat} (hb : BitsOf bs c) (J : List Nat → World → Prop) (w : World)
    (hst : ∀ done u u', J done u → Below w.heap.size u u' → J done u') (h0 : J [] w) (hstep : StepOk f #[p1, p2, p3] c w.heap.size J) :
    Calls Try.prog 44 #[.agg bs, .func (.func f) #[] #[p1, p2, p3]] w fun e w' => e = .returned (.tuple #[]) ∧ J (slotsTo c 16384) w' ∧ w.heap.size ≤ w'.heap.size := by
  have hR := sranges_any hb (w.alloc (.cells bs 24))
  have HR := Lib.hid hR
  have HBits := Lib.hid hb
  have HS24 : Hid ((Try.prog.info? 24).map (·.size) = some bs.size) := by rw [hb.size]; exact size24
  have HSt := Lib.hid hst
  have H0 := Lib.hid h0
  have HStep := Lib.hid hstep
  have HBlk := Lib.hid (heap_alloc_new w (.cells bs 24))
  clear hb hR hst h0 hstep
  go_enter Try.func44, Try.ntmps44
  go_wp2_with (with_reducible refine wpList_load_row rfl 24 (.tmp 2) rfl w.heap.size rfl 24 bs (0, 0) _ HBlk.out Try.underlying24 rfl HS24.out ?_)
  refine HR.out.mono ?_
  rintro e w1 ⟨v, rs, rfl, hinv, hown, hbel⟩
  obtain ⟨sp, cap, rfl, hsp⟩ := own_form hown
  have g1 := hbel.size
  simp only [World.size_alloc] at g1
  have HI := Lib.hid hinv
  have hlen := hinv.length
  have HO := Lib.hid hown
  have h1 : J [] w1 := HSt.out _ _ _ H0.out (((Below.refl _ _).alloc (Nat.le_refl _) _).trans (hbel.mono (by simp)))
  have HJ1 := Lib.hid h1
  have HSp := Lib.hid hsp
  clear hinv hown hbel h1 hsp
  go_wp2_with fail
  go_loopw [10] (fun i wr => ∃ k : Nat, k ≤ rs.length ∧ i = .int .i64 k ∧ J (flat (rs.take k)) wr ∧ wr.ownsRow (w.heap.size + 1) 94 2 (.slice sp rs.length cap) rs.length (rangeVals rs) ∧ w.heap.size ≤ wr.heap.size) (fun i _ => rs.length - (intOf i).toNat)
  case atStart => exact ⟨0, Nat.zero_le _, rfl, HJ1.out, by simpa using HO.out, by omega⟩
  case round =>
    obtain ⟨k, hk, rfl, hj, hown, hsz⟩ := hrel
    have HJ := Lib.hid hj
    have HOw := Lib.hid hown
    clear hj hown
    by_cases hlt : k < rs.length
    · obtain ⟨g, rfl⟩ := HSp.out (by omega)
      obtain ⟨⟨a, b⟩, hr⟩ : ∃ r, rs[k]? = some r := ⟨_, List.getElem?_eq_getElem hlt⟩
      have hrm : (a, b) ∈ rs := List.mem_of_getElem? hr
      have hab := HI.out.each _ hrm
      simp only at hab
      have hv := rangeVals_get rs k (a, b) hr
      have c0 := (HOw.out.cellAt (k * 2) (by omega)).trans hv.1
      have c1 := (HOw.out.cellAt (k * 2 + 1) (by omega)).trans hv.2
      simp only at c0 c1
      have HF := Lib.hid (flat_take rs k (a, b) hr)
      have HHas : Hid (∀ m, a ≤ m → m ≤ b → hasBit c m = true) := fun m h1 h2 => HI.out.has hrm h1 h2
      have hki : (0 : Int) ≤ (k : Int) ∧ (k : Int) < rs.length := by omega
      have hbelA : Below wr.heap.size wr (wr.alloc (.cells #[.int .i64 a, .int .i64 b] 94)) := (Below.refl _ _).alloc (Nat.le_refl _) _
      have HBA := Lib.hid hbelA
      clear hr hrm hv hbelA
      go_wp2_with fail
      generalize wr = wo at *
      go_loopw [6] (fun i wx => ∃ m : Nat, a ≤ m ∧ m ≤ b + 1 ∧ i = .int .i64 m ∧ J (flat (rs.take k) ++ upTo a m) wx ∧ Keep w.heap.size (wo.alloc (.cells #[.int .i64 a, .int .i64 b] 94)) wx) (fun i _ => b + 1 - (intOf i).toNat)
      case atStart => exact ⟨a, Nat.le_refl _, by omega, rfl, by rw [upTo_self, List.append_nil]; exact HSt.out _ _ _ HJ.out (HBA.out.mono hsz), Keep.refl _ _⟩
      case round =>
        obtain ⟨m, hm1, hm2, rfl, hj, hkeep⟩ := hrel
        have hblk : wr.heap[wo.heap.size]? = some (.cells #[.int .i64 a, .int .i64 b] 94 (0, 0)) := (hkeep.block wo.heap.size hsz (by simp)).trans (heap_alloc_new wo _)
        have d0 : wr.cell? ⟨wo.heap.size, 0, none⟩ = some (.int .i64 a) := by rw [cell_of_row _ _ _ _ _ _ hblk]; rfl
        have d1 : wr.cell? ⟨wo.heap.size, 1, none⟩ = some (.int .i64 b) := by rw [cell_of_row _ _ _ _ _ _ hblk]; rfl
        have HJm := Lib.hid hj
        have HK := Lib.hid hkeep
        have gx := hkeep.size
        simp only [World.size_alloc] at gx
        clear hj hkeep hblk c0 c1
        by_cases hmb : m ≤ b
        · have HSt1 := Lib.hid (HStep.out _ m wr HJm.out (HHas.out m hm1 hmb) (by omega) (by omega))
          have HU := Lib.hid (upTo_succ a m hm1)
          go_wp2_with fail
          refine HSt1.out.mono ?_
          rintro e w2 ⟨rfl, hj2, hk2⟩
          have HJ2 := Lib.hid hj2
          have HK2 := Lib.hid (HK.out.trans hk2)
          clear hj2 hk2
          go_wp2
          go_roundw
          case rel => exact ⟨m + 1, by omega, by omega, by go_num, by rw [HU.out, ← List.append_assoc]; exact HJ2.out, HK2.out⟩
          case measure => simp [intOf]; omega
        · have hmb1 : m = b + 1 := by omega
          subst hmb1
          go_wp2
          go_roundw
          case rel => exact ⟨k + 1, by omega, by go_num, by rw [HF.out]; exact HJm.out, ownsRow_keep (HOw.out.alloc _) (Nat.le_succ _) HK.out, by omega⟩
          case measure => simp [intOf]; omega
    · have hkn : k = rs.length := by omega
      subst hkn
      rw [List.take_length, HI.out.all] at HJ
      go_wp2
      go_end0
      exact ⟨rfl, HJ.out, hsz⟩

set_option maxRecDepth 100000 in
set_option maxHeartbeats 1600000 in
theorem each2_any (f : FuncId) (hcall : ∀ (args : Array Value) (u : World), (callFunc f args).run Try.prog u = .ok (.enter f args) u) (p1 p2 : Value) {bs : Array Value} {c : Nat → Nat} (hb : BitsOf bs c) (J : List Nat → World → Prop) (w : World)
    (hst : ∀ done u u', J done u → Below w.heap.size u u' → J done u') (h0 : J [] w) (hstep : StepOk f #[p1, p2] c w.heap.size J) :
    Calls Try.prog 44 #[.agg bs, .func (.func f) #[] #[p1, p2]] w fun e w' => e = .returned (.tuple #[]) ∧ J (slotsTo c 16384) w' ∧ w.heap.size ≤ w'.heap.size := by
  have hR := sranges_any hb (w.alloc (.cells bs 24))
  have HR := Lib.hid hR
  have HBits := Lib.hid hb
  have HS24 : Hid ((Try.prog.info? 24).map (·.size) = some bs.size) := by rw [hb.size]; exact size24
  have HSt := Lib.hid hst
  have H0 := Lib.hid h0
  have HStep := Lib.hid hstep
  have HBlk := Lib.hid (heap_alloc_new w (.cells bs 24))
  clear hb hR hst h0 hstep
  go_enter Try.func44, Try.ntmps44
  go_wp2_with (with_reducible refine wpList_load_row rfl 24 (.tmp 2) rfl w.heap.size rfl 24 bs (0, 0) _ HBlk.out Try.underlying24 rfl HS24.out ?_)
  refine HR.out.mono ?_
  rintro e w1 ⟨v, rs, rfl, hinv, hown, hbel⟩
  obtain ⟨sp, cap, rfl, hsp⟩ := own_form hown
  have g1 := hbel.size
  simp only [World.size_alloc] at g1
  have HI := Lib.hid hinv
  have hlen := hinv.length
  have HO := Lib.hid hown
  have h1 : J [] w1 := HSt.out _ _ _ H0.out (((Below.refl _ _).alloc (Nat.le_refl _) _).trans (hbel.mono (by simp)))
  have HJ1 := Lib.hid h1
  have HSp := Lib.hid hsp
  clear hinv hown hbel h1 hsp
  go_wp2_with fail
  go_loopw [10] (fun i wr => ∃ k : Nat, k ≤ rs.length ∧ i = .int .i64 k ∧ J (flat (rs.take k)) wr ∧ wr.ownsRow (w.heap.size + 1) 94 2 (.slice sp rs.length cap) rs.length (rangeVals rs) ∧ w.heap.size ≤ wr.heap.size) (fun i _ => rs.length - (intOf i).toNat)
  case atStart => exact ⟨0, Nat.zero_le _, rfl, HJ1.out, by simpa using HO.out, by omega⟩
  case round =>
    obtain ⟨k, hk, rfl, hj, hown, hsz⟩ := hrel
    have HJ := Lib.hid hj
    have HOw := Lib.hid hown
    clear hj hown
    by_cases hlt : k < rs.length
    · obtain ⟨g, rfl⟩ := HSp.out (by omega)
      obtain ⟨⟨a, b⟩, hr⟩ : ∃ r, rs[k]? = some r := ⟨_, List.getElem?_eq_getElem hlt⟩
      have hrm : (a, b) ∈ rs := List.mem_of_getElem? hr
      have hab := HI.out.each _ hrm
      simp only at hab
      have hv := rangeVals_get rs k (a, b) hr
      have c0 := (HOw.out.cellAt (k * 2) (by omega)).trans hv.1
      have c1 := (HOw.out.cellAt (k * 2 + 1) (by omega)).trans hv.2
      simp only at c0 c1
      have HF := Lib.hid (flat_take rs k (a, b) hr)
      have HHas : Hid (∀ m, a ≤ m → m ≤ b → hasBit c m = true) := fun m h1 h2 => HI.out.has hrm h1 h2
      have hki : (0 : Int) ≤ (k : Int) ∧ (k : Int) < rs.length := by omega
      have hbelA : Below wr.heap.size wr (wr.alloc (.cells #[.int .i64 a, .int .i64 b] 94)) := (Below.refl _ _).alloc (Nat.le_refl _) _
      have HBA := Lib.hid hbelA
      clear hr hrm hv hbelA
      go_wp2_with fail
      generalize wr = wo at *
      go_loopw [6] (fun i wx => ∃ m : Nat, a ≤ m ∧ m ≤ b + 1 ∧ i = .int .i64 m ∧ J (flat (rs.take k) ++ upTo a m) wx ∧ Keep w.heap.size (wo.alloc (.cells #[.int .i64 a, .int .i64 b] 94)) wx) (fun i _ => b + 1 - (intOf i).toNat)
      case atStart => exact ⟨a, Nat.le_refl _, by omega, rfl, by rw [upTo_self, List.append_nil]; exact HSt.out _ _ _ HJ.out (HBA.out.mono hsz), Keep.refl _ _⟩
      case round =>
        obtain ⟨m, hm1, hm2, rfl, hj, hkeep⟩ := hrel
        have hblk : wr.heap[wo.heap.size]? = some (.cells #[.int .i64 a, .int .i64 b] 94 (0, 0)) := (hkeep.block wo.heap.size hsz (by simp)).trans (heap_alloc_new wo _)
        have d0 : wr.cell? ⟨wo.heap.size, 0, none⟩ = some (.int .i64 a) := by rw [cell_of_row _ _ _ _ _ _ hblk]; rfl
        have d1 : wr.cell? ⟨wo.heap.size, 1, none⟩ = some (.int .i64 b) := by rw [cell_of_row _ _ _ _ _ _ hblk]; rfl
        have HJm := Lib.hid hj
        have HK := Lib.hid hkeep
        have gx := hkeep.size
        simp only [World.size_alloc] at gx
        clear hj hkeep hblk c0 c1
        by_cases hmb : m ≤ b
        · have HSt1 := Lib.hid (HStep.out _ m wr HJm.out (HHas.out m hm1 hmb) (by omega) (by omega))
          have HU := Lib.hid (upTo_succ a m hm1)
          go_wp2_with fail
          refine HSt1.out.mono ?_
          rintro e w2 ⟨rfl, hj2, hk2⟩
          have HJ2 := Lib.hid hj2
          have HK2 := Lib.hid (HK.out.trans hk2)
          clear hj2 hk2
          go_wp2
          go_roundw
          case rel => exact ⟨m + 1, by omega, by omega, by go_num, by rw [HU.out, ← List.append_assoc]; exact HJ2.out, HK2.out⟩
          case measure => simp [intOf]; omega
        · have hmb1 : m = b + 1 := by omega
          subst hmb1
          go_wp2
          go_roundw
          case rel => exact ⟨k + 1, by omega, by go_num, by rw [HF.out]; exact HJm.out, ownsRow_keep (HOw.out.alloc _) (Nat.le_succ _) HK.out, by omega⟩
          case measure => simp [intOf]; omega
    · have hkn : k = rs.length := by omega
      subst hkn
      rw [List.take_length, HI.out.all] at HJ
      go_wp2
      go_end0
      exact ⟨rfl, HJ.out, hsz⟩
end Go.Proofs.Ytlccbgjlinlioaa
