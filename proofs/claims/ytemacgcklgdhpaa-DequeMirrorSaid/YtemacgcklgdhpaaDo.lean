/- One call on the document's row, and on the deque. -/
import Derived.Test.YtemacgcklgdhpaaRef
namespace Go.Proofs.Ytemacgcklgdhpaa
open Go.RowKit

structure O where
  kind : Int
  a : Int
  b : Int
  front : Bool
  s : ByteArray

def O.val (o : O) : Value := .agg #[.int .i64 o.kind, .int .i64 o.a, .int .i64 o.b, .bool o.front, .string o.s]

structure O.Ok (o : O) : Prop where
  a0 : -9223372036854775808 ≤ o.a
  a1 : o.a ≤ 9223372036854775807
  b0 : -9223372036854775808 ≤ o.b
  b1 : o.b ≤ 9223372036854775807

def doL (l : List ByteArray) (o : O) : List ByteArray :=
  if o.kind = 0 then pushed l o.front o.s else if o.kind = 1 then popped l o.front else if o.kind = 2 then l else if o.kind = 3 then putP l o.a o.s else if o.kind = 4 then l else if o.kind = 5 then ranged l o.a o.b else l
def atS (l : List ByteArray) (i : Int) : ByteArray := match meant l.length i with | some k => l.getD k emptyS | none => emptyS
def ansS (l : List ByteArray) (o : O) : ByteArray := if o.kind = 1 then popS l o.front else if o.kind = 2 then atS l o.a else emptyS
def ansB (l : List ByteArray) (o : O) : Bool :=
  if o.kind = 0 then decide (l.length < 256) else if o.kind = 1 then decide (0 < l.length) else if o.kind = 2 then (meant l.length o.a).isSome else if o.kind = 3 then (meant l.length o.a).isSome else false
def ansL (l : List ByteArray) (o : O) : List ByteArray := if o.kind = 4 then ranged l o.a o.b else []

def ansV (l : List ByteArray) (o : O) (lv : Value) : Value := .agg #[.string (ansS l o), .bool (ansB l o), lv]

theorem pushed_le (l : List ByteArray) (front : Bool) (s : ByteArray) (h : l.length ≤ 256) : (pushed l front s).length ≤ 256 := by
  unfold pushed
  split
  · split <;> simp <;> omega
  · exact h
theorem popped_le (l : List ByteArray) (front : Bool) (h : l.length ≤ 256) : (popped l front).length ≤ 256 := by
  unfold popped
  split <;> simp <;> omega
theorem putP_len (l : List ByteArray) (i : Int) (s : ByteArray) : (putP l i s).length = l.length := by
  unfold putP
  split <;> simp
theorem doL_le (l : List ByteArray) (o : O) (h : l.length ≤ 256) : (doL l o).length ≤ 256 := by
  unfold doL
  split
  · exact pushed_le _ _ _ h
  split
  · exact popped_le _ _ h
  split
  · exact h
  split
  · rw [putP_len]; exact h
  split
  · exact h
  split
  · exact Nat.le_trans (ranged_le _ _ _) h
  · exact h

/-- a box of three cells that lies untouched -/
structure Box (w : World) (g : Nat) (x y z : Value) : Prop where
  heap : w.heap[g]? = some (.cells #[x, y, z] 41 (0, 0))
theorem Box.cell0 {w : World} {g : Nat} {x y z : Value} (h : Box w g x y z) : w.cell? ⟨g, 0, none⟩ = some x := by rw [cell_of_row w g 0 _ 41 (0, 0) h.heap]; rfl
theorem Box.cell1 {w : World} {g : Nat} {x y z : Value} (h : Box w g x y z) : w.cell? ⟨g, 1, none⟩ = some y := by rw [cell_of_row w g 1 _ 41 (0, 0) h.heap]; rfl
theorem Box.cell2 {w : World} {g : Nat} {x y z : Value} (h : Box w g x y z) : w.cell? ⟨g, 2, none⟩ = some z := by rw [cell_of_row w g 2 _ 41 (0, 0) h.heap]; rfl
theorem Box.free {w : World} {g : Nat} {x y z : Value} (h : Box w g x y z) (i : Nat) : w.frozen? ⟨g, i, none⟩ = false := frozen_of_row w g i _ 41 h.heap
theorem Box.below {w w' : World} {g n : Nat} {x y z : Value} (h : Box w g x y z) (hb : Below n w w') (hg : g < n) : Box w' g x y z := ⟨(hb.block g hg).trans h.heap⟩

theorem below2 (w : World) (c c' : Obj) : Below w.heap.size w ((w.alloc c).alloc c') := ((Below.refl _ _).alloc (Nat.le_refl _) _).alloc (by simp) _
theorem box2 (w : World) (c : Obj) (x y z : Value) : Box ((w.alloc c).alloc (.cells #[x, y, z] 41)) (w.heap.size + 1) x y z := ⟨by have := heap_alloc_new (w.alloc c) (.cells #[x, y, z] 41); simpa using this⟩

theorem Box.set {w : World} {g : Nat} {x y z : Value} (h : Box w g x y z) (x' y' z' : Value) : Box (((w.setCell ⟨g, 0, none⟩ x').setCell ⟨g, 1, none⟩ y').setCell ⟨g, 2, none⟩ z') g x' y' z' := by
  have h0 := heap_setCell_same w g 0 _ 41 x' h.heap
  have h1 := heap_setCell_same _ g 1 _ 41 y' h0
  have h2 := heap_setCell_same _ g 2 _ 41 z' h1
  exact ⟨h2⟩
theorem Box.belowSet {w w0 : World} {B g : Nat} (h : Below B w0 w) (hg : B ≤ g) (x' y' z' : Value) : Below B w0 (((w.setCell ⟨g, 0, none⟩ x').setCell ⟨g, 1, none⟩ y').setCell ⟨g, 2, none⟩ z') :=
  ((h.setCell (by exact hg) _).setCell (by exact hg) _).setCell (by exact hg) _
theorem Box.drew {w : World} {g : Nat} {x y z : Value} (h : Box w g x y z) : Box w.drew g x y z := ⟨h.heap⟩
theorem Box.belowOwn (w : World) (g : Nat) (x' y' z' : Value) : Below g w (((w.setCell ⟨g, 0, none⟩ x').setCell ⟨g, 1, none⟩ y').setCell ⟨g, 2, none⟩ z') := Box.belowSet (Below.refl _ _) (Nat.le_refl _) _ _ _
theorem Box.onlySet (w : World) (g : Nat) (x' y' z' : Value) : Only w (((w.setCell ⟨g, 0, none⟩ x').setCell ⟨g, 1, none⟩ y').setCell ⟨g, 2, none⟩ z') g :=
  ((Only.setCell _ _ _ _).trans (Only.setCell _ _ _ _)).trans (Only.setCell _ _ _ _)

theorem StrsAt.only {w w' : World} {v : Value} {l : List ByteArray} {g : Nat} (h : StrsAt w v l) (ho : Only w w' g) (hg : ∃ cs t fr, w.heap[g]? = some (.cells cs t fr) ∧ t ≠ 9) : StrsAt w' v l := by
  rcases h with h | ⟨b, off, cap, rfl, hcap, ⟨cs, fr, hn⟩, hc⟩
  · exact .inl h
  · obtain ⟨cs2, t, fr2, hg2, ht⟩ := hg
    have hne : b ≠ g := by
      intro e
      subst e
      rw [hg2] at hn
      simp at hn
      exact ht hn.2.1
    have hblk := ho.block b (by rcases Nat.lt_or_ge b w.heap.size with h | h; exact h; rw [Array.getElem?_eq_none h] at hn; cases hn) (by simpa using hne)
    refine .inr ⟨b, off, cap, rfl, hcap, ⟨cs, fr, hblk.trans hn⟩, fun i hi => ?_⟩
    rw [World.cell?_of_block (w := w) (a := ⟨b, off + i, none⟩) hblk]
    exact hc i hi

theorem StrsAt.setBox {w : World} {g : Nat} {x y z : Value} (hb : Box w g x y z) {v : Value} {l : List ByteArray} (h : StrsAt w v l) (x' y' z' : Value) :
    StrsAt (((w.setCell ⟨g, 0, none⟩ x').setCell ⟨g, 1, none⟩ y').setCell ⟨g, 2, none⟩ z') v l := h.only (Box.onlySet _ _ _ _ _) ⟨_, _, _, hb.heap, by decide⟩

theorem results21 {w : World} {g : Nat} {x y z : Value} (h : Box w g x y z) (tmps : Array Value) (h5 : tmps.getD 5 undef = .pointer (some ⟨g, 0, none⟩)) :
    (results Try.f21 tmps).run Try.prog w = .ok (.tuple #[tmps.getD 4 undef, .agg #[x, y, z]]) w := by
  have c0 := h.cell0
  have c1 := h.cell1
  have c2 := h.cell2
  simp at h5
  simp [results, Try.results21, go_sem, h5, c0, c1, c2]
  try rfl

theorem results17 {w : World} {g : Nat} {x y z : Value} (h : Box w g x y z) (tmps : Array Value) (h5 : tmps.getD 4 undef = .pointer (some ⟨g, 0, none⟩)) :
    (results Try.f17 tmps).run Try.prog w = .ok (.agg #[x, y, z]) w := by
  have c0 := h.cell0
  have c1 := h.cell1
  have c2 := h.cell2
  simp at h5
  simp [results, Try.results17, go_sem, h5, c0, c1, c2]
  try rfl

/-! do -/
set_option maxHeartbeats 1600000 in
theorem r_do0 {w : World} {v : Value} {l : List ByteArray} (H : Hid (StrsAt w v l)) (hl : l.length ≤ 256) (a b : Int) (front : Bool) (s : ByteArray) :
    Calls Try.prog 21 #[v, O.val ⟨0, a, b, front, s⟩] w fun e w' => ∃ v' lv, e = .returned (.tuple #[v', ansV l ⟨0, a, b, front, s⟩ lv]) ∧ StrsAt w' v' (doL l ⟨0, a, b, front, s⟩) ∧ StrsAt w' lv (ansL l ⟨0, a, b, front, s⟩) ∧ Below w.heap.size w w' := by
  have hnil : ∀ u : World, StrsAt u (.slice none 0 0) [] := fun u => .inl ⟨rfl, .inl rfl⟩
  unfold O.val ansV
  rw [show ansS l ⟨0, a, b, front, s⟩ = emptyS from rfl, show ansB l ⟨0, a, b, front, s⟩ = decide (l.length < 256) from rfl, show doL l ⟨0, a, b, front, s⟩ = pushed l front s from rfl, show ansL l ⟨0, a, b, front, s⟩ = [] from rfl]
  go_enter Try.func21, Try.ntmps21
  go_wp2_with fail
  refine (r_push (H.out.below (below2 _ _ _)) hl front s).mono ?_
  rintro e w' ⟨v1, rfl, hs1, hb1⟩
  have HBox := Lib.hid ((box2 w _ _ _ _).below hb1 (by simp))
  have HB1 := Lib.hid ((below2 w _ _).trans (hb1.mono (by simp; omega)))
  have HS1 := Lib.hid hs1
  have c0 := HBox.out.cell0
  have c1 := HBox.out.cell1
  have c2 := HBox.out.cell2
  have z0 := HBox.out.free 0
  have z1 := HBox.out.free 1
  have z2 := HBox.out.free 2
  clear hs1 hb1
  go_wp2
  refine bodyPost_ret (results21 (HBox.out.set _ _ _) _ rfl) rfl ?_
  exact ⟨v1, _, rfl, HS1.out.setBox HBox.out _ _ _, hnil _, Box.belowSet HB1.out (by omega) _ _ _⟩

set_option maxHeartbeats 1600000 in
theorem r_do1 {w : World} {v : Value} {l : List ByteArray} (H : Hid (StrsAt w v l)) (hl : l.length ≤ 256) (a b : Int) (front : Bool) (s : ByteArray) :
    Calls Try.prog 21 #[v, O.val ⟨1, a, b, front, s⟩] w fun e w' => ∃ v' lv, e = .returned (.tuple #[v', ansV l ⟨1, a, b, front, s⟩ lv]) ∧ StrsAt w' v' (doL l ⟨1, a, b, front, s⟩) ∧ StrsAt w' lv (ansL l ⟨1, a, b, front, s⟩) ∧ Below w.heap.size w w' := by
  have hnil : ∀ u : World, StrsAt u (.slice none 0 0) [] := fun u => .inl ⟨rfl, .inl rfl⟩
  unfold O.val ansV
  rw [show ansS l ⟨1, a, b, front, s⟩ = popS l front from rfl, show ansB l ⟨1, a, b, front, s⟩ = decide (0 < l.length) from rfl, show doL l ⟨1, a, b, front, s⟩ = popped l front from rfl, show ansL l ⟨1, a, b, front, s⟩ = [] from rfl]
  go_enter Try.func21, Try.ntmps21
  go_wp2_with fail
  refine (r_pop (H.out.below (below2 _ _ _)) hl front).mono ?_
  rintro e w' ⟨v1, rfl, hs1, hb1⟩
  have HBox := Lib.hid ((box2 w _ _ _ _).below hb1 (by simp))
  have HB1 := Lib.hid ((below2 w _ _).trans (hb1.mono (by simp; omega)))
  have HS1 := Lib.hid hs1
  have c0 := HBox.out.cell0
  have c1 := HBox.out.cell1
  have c2 := HBox.out.cell2
  have z0 := HBox.out.free 0
  have z1 := HBox.out.free 1
  have z2 := HBox.out.free 2
  clear hs1 hb1
  go_wp2
  refine bodyPost_ret (results21 (HBox.out.set _ _ _) _ rfl) rfl ?_
  exact ⟨v1, _, rfl, HS1.out.setBox HBox.out _ _ _, hnil _, Box.belowSet HB1.out (by omega) _ _ _⟩

set_option maxHeartbeats 1600000 in
theorem r_do2 {w : World} {v : Value} {l : List ByteArray} (H : Hid (StrsAt w v l)) (hl : l.length ≤ 256) (a b : Int) (front : Bool) (s : ByteArray) (ha0 : -9223372036854775808 ≤ a) :
    Calls Try.prog 21 #[v, O.val ⟨2, a, b, front, s⟩] w fun e w' => ∃ v' lv, e = .returned (.tuple #[v', ansV l ⟨2, a, b, front, s⟩ lv]) ∧ StrsAt w' v' (doL l ⟨2, a, b, front, s⟩) ∧ StrsAt w' lv (ansL l ⟨2, a, b, front, s⟩) ∧ Below w.heap.size w w' := by
  have hnil : ∀ u : World, StrsAt u (.slice none 0 0) [] := fun u => .inl ⟨rfl, .inl rfl⟩
  unfold O.val ansV
  rw [show ansS l ⟨2, a, b, front, s⟩ = atS l a from rfl, show ansB l ⟨2, a, b, front, s⟩ = (meant l.length a).isSome from rfl, show doL l ⟨2, a, b, front, s⟩ = l from rfl, show ansL l ⟨2, a, b, front, s⟩ = [] from rfl]
  unfold atS
  have HP := Lib.hid fun (u : World) (hu : Below w.heap.size w u) => r_place (H.out.below hu) hl a ha0
  cases hm : meant l.length a with
  | none =>
    have hneg := placeR_none hm
    clear hm
    generalize placeR l.length a = z at *
    go_enter Try.func21, Try.ntmps21
    go_wp2_with fail
    refine (HP.out _ (below2 _ _ _)).mono ?_
    rintro e w' ⟨rfl, rfl⟩
    go_wp2
    refine bodyPost_ret (results21 (box2 w _ _ _ _) _ rfl) rfl ?_
    exact ⟨v, _, rfl, H.out.below (below2 _ _ _), hnil _, below2 _ _ _⟩
  | some k =>
    obtain ⟨hk, hik⟩ := meant_some hm
    rw [placeR_some hm] at HP
    obtain ⟨sp, cap, rfl, hcap, hn, hc⟩ := H.out.form
    obtain ⟨b9, off, rfl, hn9, hcc⟩ := hc (by omega)
    obtain ⟨t, ht⟩ : ∃ t, t = l.getD k emptyS := ⟨_, rfl⟩
    have hck := hcc k hk
    rw [← ht] at hck
    have HT := Lib.hid ht
    have hkI : (0 : Int) ≤ (k : Int) ∧ (k : Int) < l.length := by omega
    have hneg : ¬ (k : Int) < 0 := by omega
    have hb9 : b9 < w.heap.size := block_lt_of_cell hck
    clear hm hik hc hcc hn9 hn ht
    go_enter Try.func21, Try.ntmps21
    go_wp2_with fail
    refine (HP.out _ (below2 _ _ _)).mono ?_
    rintro e w' ⟨rfl, rfl⟩
    go_wp2_with fail
    go_region
    all_goals go_wp2
    all_goals refine bodyPost_ret (results21 ((box2 w _ _ _ _).drew) _ rfl) rfl ?_
    all_goals exact ⟨_, _, by rw [HT.out]; rfl, H.out.below (below2 _ _ _).drew, hnil _, (below2 _ _ _).drew⟩

set_option maxHeartbeats 1600000 in
theorem r_do3 {w : World} {v : Value} {l : List ByteArray} (H : Hid (StrsAt w v l)) (hl : l.length ≤ 256) (a b : Int) (front : Bool) (s : ByteArray) (ha0 : -9223372036854775808 ≤ a) :
    Calls Try.prog 21 #[v, O.val ⟨3, a, b, front, s⟩] w fun e w' => ∃ v' lv, e = .returned (.tuple #[v', ansV l ⟨3, a, b, front, s⟩ lv]) ∧ StrsAt w' v' (doL l ⟨3, a, b, front, s⟩) ∧ StrsAt w' lv (ansL l ⟨3, a, b, front, s⟩) ∧ Below w.heap.size w w' := by
  have hnil : ∀ u : World, StrsAt u (.slice none 0 0) [] := fun u => .inl ⟨rfl, .inl rfl⟩
  unfold O.val ansV
  rw [show ansS l ⟨3, a, b, front, s⟩ = emptyS from rfl, show ansB l ⟨3, a, b, front, s⟩ = (meant l.length a).isSome from rfl, show doL l ⟨3, a, b, front, s⟩ = putP l a s from rfl, show ansL l ⟨3, a, b, front, s⟩ = [] from rfl]
  go_enter Try.func21, Try.ntmps21
  go_wp2_with fail
  refine (r_put (H.out.below (below2 _ _ _)) hl a s ha0).mono ?_
  rintro e w' ⟨v1, rfl, hs1, hb1⟩
  have HBox := Lib.hid ((box2 w _ _ _ _).below hb1 (by simp))
  have HB1 := Lib.hid ((below2 w _ _).trans (hb1.mono (by simp; omega)))
  have HS1 := Lib.hid hs1
  have c0 := HBox.out.cell0
  have c1 := HBox.out.cell1
  have c2 := HBox.out.cell2
  have z0 := HBox.out.free 0
  have z1 := HBox.out.free 1
  have z2 := HBox.out.free 2
  clear hs1 hb1
  go_wp2
  refine bodyPost_ret (results21 (HBox.out.set _ _ _) _ rfl) rfl ?_
  exact ⟨v1, _, rfl, HS1.out.setBox HBox.out _ _ _, hnil _, Box.belowSet HB1.out (by omega) _ _ _⟩

set_option maxHeartbeats 1600000 in
theorem r_do4 {w : World} {v : Value} {l : List ByteArray} (H : Hid (StrsAt w v l)) (hl : l.length ≤ 256) (a b : Int) (front : Bool) (s : ByteArray) (ha0 : -9223372036854775808 ≤ a) (ha1 : a ≤ 9223372036854775807) (hb0 : -9223372036854775808 ≤ b) (hb1 : b ≤ 9223372036854775807) :
    Calls Try.prog 21 #[v, O.val ⟨4, a, b, front, s⟩] w fun e w' => ∃ v' lv, e = .returned (.tuple #[v', ansV l ⟨4, a, b, front, s⟩ lv]) ∧ StrsAt w' v' (doL l ⟨4, a, b, front, s⟩) ∧ StrsAt w' lv (ansL l ⟨4, a, b, front, s⟩) ∧ Below w.heap.size w w' := by
  have hnil : ∀ u : World, StrsAt u (.slice none 0 0) [] := fun u => .inl ⟨rfl, .inl rfl⟩
  unfold O.val ansV
  rw [show ansS l ⟨4, a, b, front, s⟩ = emptyS from rfl, show ansB l ⟨4, a, b, front, s⟩ = false from rfl, show doL l ⟨4, a, b, front, s⟩ = l from rfl, show ansL l ⟨4, a, b, front, s⟩ = ranged l a b from rfl]
  go_enter Try.func21, Try.ntmps21
  go_wp2_with fail
  refine (r_range (H.out.below (below2 _ _ _)) hl a b ha0 hb0 ha1 hb1).mono ?_
  rintro e w' ⟨v1, rfl, hs1, hb1⟩
  obtain ⟨sp, cap, rfl, _⟩ := hs1.form
  have HBox := Lib.hid ((box2 w _ _ _ _).below hb1 (by simp))
  have HB1 := Lib.hid ((below2 w _ _).trans (hb1.mono (by simp; omega)))
  have HS1 := Lib.hid hs1
  have c0 := HBox.out.cell0
  have c1 := HBox.out.cell1
  have c2 := HBox.out.cell2
  have z0 := HBox.out.free 0
  have z1 := HBox.out.free 1
  have z2 := HBox.out.free 2
  clear hs1 hb1
  go_wp2
  refine bodyPost_ret (results21 (HBox.out.set _ _ _) _ rfl) rfl ?_
  exact ⟨v, _, rfl, (H.out.below HB1.out).setBox HBox.out _ _ _, HS1.out.setBox HBox.out _ _ _, Box.belowSet HB1.out (by omega) _ _ _⟩

set_option maxHeartbeats 1600000 in
theorem r_do5 {w : World} {v : Value} {l : List ByteArray} (H : Hid (StrsAt w v l)) (hl : l.length ≤ 256) (a b : Int) (front : Bool) (s : ByteArray) (ha0 : -9223372036854775808 ≤ a) (ha1 : a ≤ 9223372036854775807) (hb0 : -9223372036854775808 ≤ b) (hb1 : b ≤ 9223372036854775807) :
    Calls Try.prog 21 #[v, O.val ⟨5, a, b, front, s⟩] w fun e w' => ∃ v' lv, e = .returned (.tuple #[v', ansV l ⟨5, a, b, front, s⟩ lv]) ∧ StrsAt w' v' (doL l ⟨5, a, b, front, s⟩) ∧ StrsAt w' lv (ansL l ⟨5, a, b, front, s⟩) ∧ Below w.heap.size w w' := by
  have hnil : ∀ u : World, StrsAt u (.slice none 0 0) [] := fun u => .inl ⟨rfl, .inl rfl⟩
  unfold O.val ansV
  rw [show ansS l ⟨5, a, b, front, s⟩ = emptyS from rfl, show ansB l ⟨5, a, b, front, s⟩ = false from rfl, show doL l ⟨5, a, b, front, s⟩ = ranged l a b from rfl, show ansL l ⟨5, a, b, front, s⟩ = [] from rfl]
  go_enter Try.func21, Try.ntmps21
  go_wp2_with fail
  refine (r_range (H.out.below (below2 _ _ _)) hl a b ha0 hb0 ha1 hb1).mono ?_
  rintro e w' ⟨v1, rfl, hs1, hb1⟩
  have HBox := Lib.hid ((box2 w _ _ _ _).below hb1 (by simp))
  have HB1 := Lib.hid ((below2 w _ _).trans (hb1.mono (by simp; omega)))
  have HS1 := Lib.hid hs1
  have c0 := HBox.out.cell0
  have c1 := HBox.out.cell1
  have c2 := HBox.out.cell2
  have z0 := HBox.out.free 0
  have z1 := HBox.out.free 1
  have z2 := HBox.out.free 2
  clear hs1 hb1
  go_wp2
  refine bodyPost_ret (results21 (HBox.out.set _ _ _) _ rfl) rfl ?_
  exact ⟨v1, _, rfl, HS1.out.setBox HBox.out _ _ _, hnil _, Box.belowSet HB1.out (by omega) _ _ _⟩

theorem r_do_none {w : World} {v : Value} {l : List ByteArray} (H : Hid (StrsAt w v l)) (o : O) (h0 : ¬ o.kind = 0) (h1 : ¬ o.kind = 1) (h2 : ¬ o.kind = 2) (h3 : ¬ o.kind = 3) (h4 : ¬ o.kind = 4) (h5 : ¬ o.kind = 5) :
    Calls Try.prog 21 #[v, o.val] w fun e w' => ∃ v' lv, e = .returned (.tuple #[v', ansV l o lv]) ∧ StrsAt w' v' (doL l o) ∧ StrsAt w' lv (ansL l o) ∧ Below w.heap.size w w' := by
  have hnil : ∀ u : World, StrsAt u (.slice none 0 0) [] := fun u => .inl ⟨rfl, .inl rfl⟩
  unfold O.val ansV
  rw [show ansS l o = emptyS by simp [ansS, h1, h2], show ansB l o = false by simp [ansB, h0, h1, h2, h3], show doL l o = l by simp [doL, h0, h1, h2, h3, h4, h5], show ansL l o = [] by simp [ansL, h4]]
  obtain ⟨kind, a, b, front, s⟩ := o
  simp only at h0 h1 h2 h3 h4 h5
  go_enter Try.func21, Try.ntmps21
  go_wp2
  refine bodyPost_ret (results21 (box2 w _ _ _ _) _ rfl) rfl ?_
  exact ⟨v, _, rfl, H.out.below (below2 _ _ _), hnil _, below2 _ _ _⟩

theorem r_do {w : World} {v : Value} {l : List ByteArray} (h : StrsAt w v l) (hl : l.length ≤ 256) (o : O) (ho : o.Ok) :
    Calls Try.prog 21 #[v, o.val] w fun e w' => ∃ v' lv, e = .returned (.tuple #[v', ansV l o lv]) ∧ StrsAt w' v' (doL l o) ∧ StrsAt w' lv (ansL l o) ∧ Below w.heap.size w w' := by
  have H := Lib.hid h
  by_cases h0 : o.kind = 0
  · obtain ⟨kind, a, b, front, s⟩ := o
    subst h0
    exact r_do0 H hl a b front s
  by_cases h1 : o.kind = 1
  · obtain ⟨kind, a, b, front, s⟩ := o
    subst h1
    exact r_do1 H hl a b front s
  by_cases h2 : o.kind = 2
  · obtain ⟨kind, a, b, front, s⟩ := o
    subst h2
    exact r_do2 H hl a b front s ho.a0
  by_cases h3 : o.kind = 3
  · obtain ⟨kind, a, b, front, s⟩ := o
    subst h3
    exact r_do3 H hl a b front s ho.a0
  by_cases h4 : o.kind = 4
  · obtain ⟨kind, a, b, front, s⟩ := o
    subst h4
    exact r_do4 H hl a b front s ho.a0 ho.a1 ho.b0 ho.b1
  by_cases h5 : o.kind = 5
  · obtain ⟨kind, a, b, front, s⟩ := o
    subst h5
    exact r_do5 H hl a b front s ho.a0 ho.a1 ho.b0 ho.b1
  exact r_do_none H o h0 h1 h2 h3 h4 h5
end Go.Proofs.Ytemacgcklgdhpaa
