/- The view in memory: its cells; the small methods. -/
import Derived.Test.YtlccbgjlinlioaaRows
import Derived.WalkKit
import Derived.WalkLawsBesides
import Derived.Lib.Hide
import Derived.BigQuiet
import Derived.StillTailTactics
import Derived.BigRegion
import Derived.Deep.DeepCutAuto
import Derived.Deep.RegionWith
import Derived.Deep.MidRow
namespace Go.Proofs.Ytlccbgjlinlioaa
open Go.RowKit

/-- what a view knows -/
structure VS where
  self : Nat
  own : Nat → Int
  ep : Nat → Int
  cur : Int

/-- what holds of it always; 'M': no epoch is above -/
structure VS.Ok (s : VS) (M : Int) : Prop where
  self : s.self < 64
  own : ∀ k, -1 ≤ s.own k ∧ s.own k < 64
  ep : ∀ n, 0 ≤ s.ep n ∧ s.ep n ≤ s.cur
  cur : s.cur ≤ M

def VS.setOwn (s : VS) (k : Nat) (v : Int) : VS := { s with own := fun j => if j = k then v else s.own j }
def VS.setEp (s : VS) (n : Nat) (v : Int) : VS := { s with ep := fun j => if j = n then v else s.ep j }
def VS.setCur (s : VS) (v : Int) : VS := { s with cur := v }

/-- the cells of a view: self, owners, epochs, the greatest -/
structure VCells (cs : Array Value) (s : VS) : Prop where
  size : cs.size = 16450
  self : cs[0]? = some (.int .i64 (s.self : Int))
  own : ∀ k, k < 16384 → cs[1 + k]? = some (.int .i8 (s.own k))
  ep : ∀ n, n < 64 → cs[16385 + n]? = some (.int .u64 (s.ep n))
  cur : cs[16449]? = some (.int .u64 s.cur)

theorem set_get {cs : Array Value} {i j : Nat} {v : Value} (h : i < cs.size) : (cs.setIfInBounds i v)[j]? = if i = j then some v else cs[j]? := by
  rw [Array.getElem?_setIfInBounds]
  by_cases e : i = j
  · subst e; simp [h]
  · simp [e]

theorem VCells.setOwn {cs : Array Value} {s : VS} (h : VCells cs s) (k : Nat) (hk : k < 16384) (v : Int) : VCells (cs.setIfInBounds (1 + k) (.int .i8 v)) (s.setOwn k v) := by
  have hs := h.size
  refine ⟨by simp [hs], ?_, fun j hj => ?_, fun n hn => ?_, ?_⟩
  · rw [set_get (by omega), if_neg (by omega)]; exact h.self
  · rw [set_get (by omega)]
    by_cases e : j = k
    · subst e; simp [VS.setOwn]
    · rw [if_neg (by omega), h.own j hj]; simp [VS.setOwn, e]
  · rw [set_get (by omega), if_neg (by omega)]; exact h.ep n hn
  · rw [set_get (by omega), if_neg (by omega)]; exact h.cur
theorem VCells.setEp {cs : Array Value} {s : VS} (h : VCells cs s) (n : Nat) (hn : n < 64) (v : Int) : VCells (cs.setIfInBounds (16385 + n) (.int .u64 v)) (s.setEp n v) := by
  have hs := h.size
  refine ⟨by simp [hs], ?_, fun j hj => ?_, fun j hj => ?_, ?_⟩
  · rw [set_get (by omega), if_neg (by omega)]; exact h.self
  · rw [set_get (by omega), if_neg (by omega)]; exact h.own j hj
  · rw [set_get (by omega)]
    by_cases e : j = n
    · subst e; simp [VS.setEp]
    · rw [if_neg (by omega), h.ep j hj]; simp [VS.setEp, e]
  · rw [set_get (by omega), if_neg (by omega)]; exact h.cur
theorem VCells.setCur {cs : Array Value} {s : VS} (h : VCells cs s) (v : Int) : VCells (cs.setIfInBounds 16449 (.int .u64 v)) (s.setCur v) := by
  have hs := h.size
  refine ⟨by simp [hs], ?_, fun j hj => ?_, fun j hj => ?_, ?_⟩
  · rw [set_get (by omega), if_neg (by omega)]; exact h.self
  · rw [set_get (by omega), if_neg (by omega)]; exact h.own j hj
  · rw [set_get (by omega), if_neg (by omega)]; exact h.ep j hj
  · rw [set_get (by omega)]; simp [VS.setCur]

/-- block g is a view -/
def ViewAt (w : World) (g : Nat) (s : VS) : Prop := ∃ cs, w.heap[g]? = some (.cells cs 80 (0, 0)) ∧ VCells cs s

theorem ViewAt.lt {w : World} {g : Nat} {s : VS} (h : ViewAt w g s) : g < w.heap.size := by
  obtain ⟨cs, h1, _⟩ := h
  rcases Nat.lt_or_ge g w.heap.size with h | h
  · exact h
  · rw [Array.getElem?_eq_none h] at h1; cases h1
theorem ViewAt.self {w : World} {g : Nat} {s : VS} (h : ViewAt w g s) : w.cell? ⟨g, 0, none⟩ = some (.int .i64 (s.self : Int)) := by
  obtain ⟨cs, h1, h2⟩ := h
  rw [cell_of_row w g 0 cs 80 (0, 0) h1, h2.self]
theorem ViewAt.own {w : World} {g : Nat} {s : VS} (h : ViewAt w g s) (k : Nat) (hk : k < 16384) : w.cell? ⟨g, 1 + k, none⟩ = some (.int .i8 (s.own k)) := by
  obtain ⟨cs, h1, h2⟩ := h
  rw [cell_of_row w g _ cs 80 (0, 0) h1, h2.own k hk]
theorem ViewAt.ep {w : World} {g : Nat} {s : VS} (h : ViewAt w g s) (n : Nat) (hn : n < 64) : w.cell? ⟨g, 16385 + n, none⟩ = some (.int .u64 (s.ep n)) := by
  obtain ⟨cs, h1, h2⟩ := h
  rw [cell_of_row w g _ cs 80 (0, 0) h1, h2.ep n hn]
theorem ViewAt.cur {w : World} {g : Nat} {s : VS} (h : ViewAt w g s) : w.cell? ⟨g, 16449, none⟩ = some (.int .u64 s.cur) := by
  obtain ⟨cs, h1, h2⟩ := h
  rw [cell_of_row w g _ cs 80 (0, 0) h1, h2.cur]
theorem ViewAt.free {w : World} {g : Nat} {s : VS} (h : ViewAt w g s) (i : Nat) : w.frozen? ⟨g, i, none⟩ = false := by
  obtain ⟨cs, h1, h2⟩ := h
  exact frozen_of_row w g i cs 80 h1

/-- only block g has changed -/
abbrev Only (w w' : World) (g : Nat) : Prop := w.grownBy w' (some g)
theorem Only.refl (w : World) (g : Nat) : Only w w g := ⟨rfl, rfl, rfl, Nat.le_refl _, fun _ _ _ => rfl⟩
theorem Only.trans {a b c : World} {g : Nat} (h : Only a b g) (k : Only b c g) : Only a c g :=
  ⟨k.os.trans h.os, k.tape.trans h.tape, k.output.trans h.output, Nat.le_trans h.size k.size, fun i hi hg => (k.block i (Nat.lt_of_lt_of_le hi h.size) hg).trans (h.block i hi hg)⟩
theorem Only.setCell (w : World) (g i : Nat) (v : Value) : Only w (w.setCell ⟨g, i, none⟩ v) g :=
  ⟨rfl, rfl, rfl, by simp [World.setCell], fun k _ hg => Below.heap_setCell _ _ _ _ (fun e => hg (by rw [e]))⟩
theorem Only.drew {w w' : World} {g : Nat} (h : Only w w' g) : Only w w'.drew g := ⟨h.os, h.tape, h.output, h.size, h.block⟩
theorem below_only {w w' : World} (h : Below w.heap.size w w') (g : Nat) : Only w w' g := ⟨h.os, h.tape, h.output, h.size, fun k hk _ => h.block k hk⟩
theorem Only.new {w w0 w' : World} {g B : Nat} (hb : Below B w0 w) (ho : Only w w' g) (hBg : B ≤ g) (hB : B ≤ w.heap.size) : Below B w0 w' :=
  ⟨ho.os.trans hb.os, ho.tape.trans hb.tape, ho.output.trans hb.output, Nat.le_trans hb.size ho.size, fun k hk => (ho.block k (by omega) (by simp; omega)).trans (hb.block k hk)⟩
theorem Only.comp {w w3 w' wf : World} {g : Nat} (h1 : Below w.heap.size w w3) (h2 : Only w3 w' g) (h3 : Below w.heap.size w' wf) : Only w wf g :=
  ⟨h3.os.trans (h2.os.trans h1.os), h3.tape.trans (h2.tape.trans h1.tape), h3.output.trans (h2.output.trans h1.output), Nat.le_trans h1.size (Nat.le_trans h2.size h3.size),
    fun k hk hg => (h3.block k hk).trans ((h2.block k (Nat.lt_of_lt_of_le hk h1.size) hg).trans (h1.block k hk))⟩

theorem ViewAt.belowN {w w' : World} {g n : Nat} {s : VS} (h : ViewAt w g s) (hb : Below n w w') (hg : g < n) : ViewAt w' g s := by
  obtain ⟨cs, h1, h2⟩ := h
  exact ⟨cs, (hb.block g hg).trans h1, h2⟩
theorem ViewAt.below {w w' : World} {g : Nat} {s : VS} (h : ViewAt w g s) (hb : Below w.heap.size w w') : ViewAt w' g s := h.belowN hb h.lt
theorem ViewAt.only {w w' : World} {g g' : Nat} {s : VS} (h : ViewAt w g s) (hb : Only w w' g') (hne : g ≠ g') : ViewAt w' g s := by
  have hlt := h.lt
  obtain ⟨cs, h1, h2⟩ := h
  exact ⟨cs, (hb.block g hlt (fun e => hne (by simpa using e))).trans h1, h2⟩
theorem ViewAt.drew {w : World} {g : Nat} {s : VS} (h : ViewAt w g s) : ViewAt w.drew g s := h
theorem ViewAt.setOwn {w : World} {g : Nat} {s : VS} (h : ViewAt w g s) (k : Nat) (hk : k < 16384) (v : Int) : ViewAt (w.setCell ⟨g, 1 + k, none⟩ (.int .i8 v)) g (s.setOwn k v) := by
  obtain ⟨cs, h1, h2⟩ := h
  exact ⟨_, heap_setCell_same w g _ cs 80 _ h1, h2.setOwn k hk v⟩
theorem ViewAt.setEp {w : World} {g : Nat} {s : VS} (h : ViewAt w g s) (n : Nat) (hn : n < 64) (v : Int) : ViewAt (w.setCell ⟨g, 16385 + n, none⟩ (.int .u64 v)) g (s.setEp n v) := by
  obtain ⟨cs, h1, h2⟩ := h
  exact ⟨_, heap_setCell_same w g _ cs 80 _ h1, h2.setEp n hn v⟩
theorem ViewAt.setCur {w : World} {g : Nat} {s : VS} (h : ViewAt w g s) (v : Int) : ViewAt (w.setCell ⟨g, 16449, none⟩ (.int .u64 v)) g (s.setCur v) := by
  obtain ⟨cs, h1, h2⟩ := h
  exact ⟨_, heap_setCell_same w g _ cs 80 _ h1, h2.setCur v⟩

/-- a node's number; a slot's -/
def inNode (n : Int) : Bool := decide (0 ≤ n ∧ n < 64)
def inSlot (n : Int) : Bool := decide (0 ≤ n ∧ n < 16384)
theorem inNode_true {n : Int} (h : inNode n = true) : 0 ≤ n ∧ n < 64 := of_decide_eq_true h
theorem inNode_false {n : Int} (h : inNode n = false) : n < 0 ∨ 64 ≤ n := by have := of_decide_eq_false h; omega
theorem inSlot_true {n : Int} (h : inSlot n = true) : 0 ≤ n ∧ n < 16384 := of_decide_eq_true h
theorem inSlot_false {n : Int} (h : inSlot n = false) : n < 0 ∨ 16384 ≤ n := by have := of_decide_eq_false h; omega

theorem node_any (n : Int) (w : World) : Calls Try.prog 36 #[.int .i64 n] w fun e w' => e = .returned (.bool (inNode n)) ∧ w = w' := by
  by_cases h : 0 ≤ n
  · by_cases h2 : n < 64
    · have HD : Hid (inNode n = true) := decide_eq_true ⟨h, h2⟩
      go_enter Try.func36, Try.ntmps36
      go_wp2
      go_ret
      exact ⟨by rw [HD.out]; rfl, rfl⟩
    · have HD : Hid (inNode n = false) := decide_eq_false (fun hh => h2 hh.2)
      go_enter Try.func36, Try.ntmps36
      go_wp2
      go_ret
      exact ⟨by rw [HD.out]; rfl, rfl⟩
  · have HD : Hid (inNode n = false) := decide_eq_false (fun hh => h hh.1)
    go_enter Try.func36, Try.ntmps36
    go_wp2
    go_ret
    exact ⟨by rw [HD.out]; rfl, rfl⟩

theorem there_any (n : Int) (w : World) : Calls Try.prog 42 #[.int .i64 n] w fun e w' => e = .returned (.bool (inSlot n)) ∧ w = w' := by
  by_cases h : 0 ≤ n
  · by_cases h2 : n < 16384
    · have HD : Hid (inSlot n = true) := decide_eq_true ⟨h, h2⟩
      go_enter Try.func42, Try.ntmps42
      go_wp2
      go_ret
      exact ⟨by rw [HD.out]; rfl, rfl⟩
    · have HD : Hid (inSlot n = false) := decide_eq_false (fun hh => h2 hh.2)
      go_enter Try.func42, Try.ntmps42
      go_wp2
      go_ret
      exact ⟨by rw [HD.out]; rfl, rfl⟩
  · have HD : Hid (inSlot n = false) := decide_eq_false (fun hh => h hh.1)
    go_enter Try.func42, Try.ntmps42
    go_wp2
    go_ret
    exact ⟨by rw [HD.out]; rfl, rfl⟩

theorem self_any {w : World} {g : Nat} {s : VS} (h : ViewAt w g s) : Calls Try.prog 27 #[.pointer (some ⟨g, 0, none⟩)] w fun e w' => e = .returned (.int .i64 s.self) ∧ w = w' := by
  have h1 := h.self
  clear h
  go_enter Try.func27, Try.ntmps27
  go_wp2
  go_ret
  exact ⟨rfl, rfl⟩

theorem current_any {w : World} {g : Nat} {s : VS} (h : ViewAt w g s) : Calls Try.prog 18 #[.pointer (some ⟨g, 0, none⟩)] w fun e w' => e = .returned (.int .u64 s.cur) ∧ w = w' := by
  have h1 := h.cur
  clear h
  go_enter Try.func18, Try.ntmps18
  go_wp2
  go_ret
  exact ⟨rfl, rfl⟩

/-- who owns; no slot: nobody -/
def VS.owner (s : VS) (n : Int) : Int := if inSlot n = true then s.own n.toNat else -1
/-- a node's epoch; no node: 0 -/
def VS.epoch (s : VS) (n : Int) : Int := if inNode n = true then s.ep n.toNat else 0

theorem owner_any {w : World} {g : Nat} {s : VS} (h : ViewAt w g s) {M : Int} (hok : s.Ok M) (n : Int) : Calls Try.prog 22 #[.pointer (some ⟨g, 0, none⟩), .int .i64 n] w fun e w' => e = .returned (.int .i64 (s.owner n)) ∧ w = w' := by
  have HT := Lib.hid (there_any n w)
  cases ht : inSlot n with
  | true =>
    obtain ⟨h0, h1⟩ := inSlot_true ht
    obtain ⟨k, rfl⟩ := Int.eq_ofNat_of_zero_le h0
    have hk : k < 16384 := by omega
    have c1 := h.own k hk
    have hO : Hid (s.owner k = s.own k) := by unfold VS.owner; rw [if_pos ht]; exact rfl
    have ho := hok.own k
    generalize s.own k = o at *
    rw [ht] at HT
    clear h hok ht
    go_enter Try.func22, Try.ntmps22
    go_wp2_with fail
    refine HT.out.mono ?_
    rintro e w' ⟨rfl, rfl⟩
    go_wp2
    go_ret
    exact ⟨by rw [hO.out]; rfl, rfl⟩
  | false =>
    have hO : Hid (s.owner n = -1) := by unfold VS.owner; rw [if_neg (by rw [ht]; decide)]; exact rfl
    rw [ht] at HT
    clear h hok ht
    go_enter Try.func22, Try.ntmps22
    go_wp2_with fail
    refine HT.out.mono ?_
    rintro e w' ⟨rfl, rfl⟩
    go_wp2
    go_ret
    exact ⟨by rw [hO.out]; rfl, rfl⟩

theorem epoch_any {w : World} {g : Nat} {s : VS} (h : ViewAt w g s) (n : Int) : Calls Try.prog 15 #[.pointer (some ⟨g, 0, none⟩), .int .i64 n] w fun e w' => e = .returned (.int .u64 (s.epoch n)) ∧ w = w' := by
  have HT := Lib.hid (node_any n w)
  cases ht : inNode n with
  | true =>
    obtain ⟨h0, h1⟩ := inNode_true ht
    obtain ⟨k, rfl⟩ := Int.eq_ofNat_of_zero_le h0
    have hk : k < 64 := by omega
    have c1 := h.ep k hk
    have hO : Hid (s.epoch k = s.ep k) := by unfold VS.epoch; rw [if_pos ht]; exact rfl
    generalize s.ep k = o at *
    rw [ht] at HT
    clear h ht
    go_enter Try.func15, Try.ntmps15
    go_wp2_with fail
    refine HT.out.mono ?_
    rintro e w' ⟨rfl, rfl⟩
    go_wp2
    go_ret
    exact ⟨by rw [hO.out]; rfl, rfl⟩
  | false =>
    have hO : Hid (s.epoch n = 0) := by unfold VS.epoch; rw [if_neg (by rw [ht]; decide)]; exact rfl
    rw [ht] at HT
    clear h ht
    go_enter Try.func15, Try.ntmps15
    go_wp2_with fail
    refine HT.out.mono ?_
    rintro e w' ⟨rfl, rfl⟩
    go_wp2
    go_ret
    exact ⟨by rw [hO.out]; rfl, rfl⟩

/-- a new epoch of its own -/
def VS.raise (s : VS) : VS := (s.setCur (s.cur + 1)).setEp s.self (s.cur + 1)

set_option maxRecDepth 100000 in
theorem raise_any {w : World} {g : Nat} {s : VS} (h : ViewAt w g s) {M : Int} (hok : s.Ok M) (hM : M ≤ 9223372036854775807) :
    Calls Try.prog 33 #[.pointer (some ⟨g, 0, none⟩)] w fun e w' => e = .returned (.tuple #[]) ∧ ViewAt w' g s.raise ∧ Only w w' g := by
  have hs := hok.self
  have h0 := (hok.ep 0)
  have hc := hok.cur
  have c0 := h.self
  have c1 := h.cur
  have c2 := h.ep s.self hs
  have z1 := h.free 16449
  have z2 := h.free (16385 + s.self)
  have HV := Lib.hid ((h.setCur (s.cur + 1)).setEp s.self hs (s.cur + 1))
  have HVE : Hid (s.raise = (s.setCur (s.cur + 1)).setEp s.self (s.cur + 1)) := rfl
  have hcur : 0 ≤ s.cur ∧ s.cur ≤ 9223372036854775807 := by omega
  generalize s.self = k at *
  generalize hcc : s.cur = c at *
  generalize s.ep k = oe at *
  clear hcc hok h0 hc
  have hki : (0 : Int) ≤ (k : Int) ∧ (k : Int) < 64 := by omega
  clear h
  go_enter Try.func33, Try.ntmps33
  go_wp2_with fail
  go_region
  all_goals go_wp2
  all_goals go_end0
  all_goals exact ⟨rfl, by rw [HVE.out]; first | exact HV.out | exact HV.out.drew, by first | exact ((Only.setCell _ _ _ _).trans (Only.setCell _ _ _ _)) | exact ((Only.setCell _ _ _ _).drew.trans (Only.setCell _ _ _ _)) | exact ((Only.setCell _ _ _ _).trans (Only.setCell _ _ _ _)).drew⟩

end Go.Proofs.Ytlccbgjlinlioaa
