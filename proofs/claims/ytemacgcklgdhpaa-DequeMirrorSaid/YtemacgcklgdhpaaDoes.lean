/- One call on the deque. -/
import Derived.Test.YtemacgcklgdhpaaDo
namespace Go.Proofs.Ytemacgcklgdhpaa
open Go.RowKit

theorem below3 (w : World) (c c' c'' : Obj) : Below w.heap.size w (((w.alloc c).alloc c').alloc c'') := (((Below.refl _ _).alloc (Nat.le_refl _) _).alloc (by simp) _).alloc (by simp; omega) _
theorem box3 (w : World) (c c' : Obj) (x y z : Value) : Box (((w.alloc c).alloc c').alloc (.cells #[x, y, z] 41)) (w.heap.size + 1 + 1) x y z := ⟨by have := heap_alloc_new ((w.alloc c).alloc c') (.cells #[x, y, z] 41); simpa using this⟩
theorem box3' (w : World) (c c'' : Obj) (x y z : Value) : Box (((w.alloc c).alloc (.cells #[x, y, z] 41)).alloc c'') (w.heap.size + 1) x y z :=
  ⟨by rw [Below.heap_alloc _ _ _ (by simp)]; exact (box2 w c x y z).heap⟩
theorem Box.only {w w' : World} {g n : Nat} {x y z : Value} (h : Box w g x y z) (ho : Only w w' n) (hne : g ≠ n) : Box w' g x y z :=
  ⟨(ho.block g (by rcases Nat.lt_or_ge g w.heap.size with h1 | h1; exact h1; have := h.heap; rw [Array.getElem?_eq_none h1] at this; cases this) (by simpa using hne)).trans h.heap⟩
theorem Box.setOther {w : World} {g : Nat} {x y z : Value} (h : Box w g x y z) (g' i : Nat) (u : Value) (hne : g ≠ g') : Box (w.setCell ⟨g', i, none⟩ u) g x y z :=
  ⟨(Below.heap_setCell _ _ _ _ hne).trans h.heap⟩
theorem Dq.belowN {w w' : World} {g n : Nat} {l : List ByteArray} (h : Dq w g l) (hb : Below n w w') (hg : g < n) : Dq w' g l := by
  obtain ⟨cs, f, h1, hr⟩ := h
  exact ⟨cs, f, (hb.block g hg).trans h1, hr⟩
theorem below_only {w w' : World} (h : Below w.heap.size w w') (g : Nat) : Only w w' g := ⟨h.os, h.tape, h.output, h.size, fun k hk _ => h.block k hk⟩
theorem Only.comp {w w3 w' wf : World} {g : Nat} (h1 : Below w.heap.size w w3) (h2 : Only w3 w' g) (h3 : Below w.heap.size w' wf) : Only w wf g :=
  ⟨h3.os.trans (h2.os.trans h1.os), h3.tape.trans (h2.tape.trans h1.tape), h3.output.trans (h2.output.trans h1.output), Nat.le_trans h1.size (Nat.le_trans h2.size h3.size),
    fun k hk hg => (h3.block k hk).trans ((h2.block k (Nat.lt_of_lt_of_le hk h1.size) hg).trans (h1.block k hk))⟩
theorem dq_at' {w : World} {g : Nat} {l : List ByteArray} (h : Dq w g l) (i : Int) (hi : -9223372036854775808 ≤ i) :
    Calls Try.prog 23 #[.pointer (some ⟨g, 0, none⟩), .int .i64 i] w fun e w' => e = .returned (.tuple #[.string (atS l i), .bool (meant l.length i).isSome]) ∧ Dq w' g l ∧ Only w w' g :=
  (dq_at h i hi).mono fun e w' ⟨he, hw⟩ => by subst hw; exact ⟨he, h, Only.refl _ _⟩
theorem dq_range' {w : World} {g : Nat} {l : List ByteArray} (h : Dq w g l) (a b : Int) (ha : -9223372036854775808 ≤ a) (hb : -9223372036854775808 ≤ b) :
    Calls Try.prog 16 #[.pointer (some ⟨g, 0, none⟩), .int .i64 a, .int .i64 b] w fun e w' => ∃ sp n cap, e = .returned (.slice sp n cap) ∧ StrsAt w' (.slice sp n cap) (ranged l a b) ∧ Dq w' g l ∧ Only w w' g :=
  (dq_range h a b ha hb).mono fun e w' ⟨v, he, hs, hw⟩ => by
    obtain ⟨sp, cap, rfl, _⟩ := hs.form
    exact ⟨_, _, _, he, hs, h.below hw, below_only hw g⟩
theorem StrsAt.setOne {w : World} {g i : Nat} {x y z u : Value} (hb : Box w g x y z) {v : Value} {l : List ByteArray} (h : StrsAt w v l) : StrsAt (w.setCell ⟨g, i, none⟩ u) v l :=
  h.only (Only.setCell _ _ _ _) ⟨_, _, _, hb.heap, by decide⟩

set_option maxRecDepth 100000 in
set_option maxHeartbeats 1600000 in
theorem d_do0 {w : World} {g : Nat} {l : List ByteArray} (H : Hid (Dq w g l)) (a b : Int) (front : Bool) (s : ByteArray) :
    Calls Try.prog 17 #[.pointer (some ⟨g, 0, none⟩), O.val ⟨0, a, b, front, s⟩] w fun e w' => ∃ lv, e = .returned (ansV l ⟨0, a, b, front, s⟩ lv) ∧ Dq w' g (doL l ⟨0, a, b, front, s⟩) ∧ StrsAt w' lv (ansL l ⟨0, a, b, front, s⟩) ∧ Only w w' g := by
  have hnil : ∀ u : World, StrsAt u (.slice none 0 0) [] := fun u => .inl ⟨rfl, .inl rfl⟩
  have hgs := H.out.lt
  unfold O.val ansV
  rw [show ansS l ⟨0, a, b, front, s⟩ = emptyS from rfl, show ansB l ⟨0, a, b, front, s⟩ = decide (l.length < 256) from rfl, show doL l ⟨0, a, b, front, s⟩ = pushed l front s from rfl, show ansL l ⟨0, a, b, front, s⟩ = [] from rfl]
  go_enter Try.func17, Try.ntmps17
  go_wp2_with fail
  refine (dq_push (H.out.below (below3 _ _ _ _)) front s).mono ?_
  rintro e w' ⟨rfl, hd, honly⟩
  have HB5 := Lib.hid ((box3 w _ _ _ _ _).only honly (by omega))
  have HB4 := Lib.hid ((box3' w _ _ _ _ _).only honly (by omega))
  have HD := Lib.hid hd
  have HO := Lib.hid (honly)
  have c0 := HB4.out.cell0
  have c1 := HB4.out.cell1
  have c2 := HB4.out.cell2
  have z0 := HB4.out.free 0
  have z1 := HB4.out.free 1
  have z2 := HB4.out.free 2
  have d0 := HB5.out.cell0
  have d1 := HB5.out.cell1
  have d2 := HB5.out.cell2
  have y0 := HB5.out.free 0
  have y1 := HB5.out.free 1
  have y2 := HB5.out.free 2
  clear hd honly
  go_wp2
  refine bodyPost_ret (results17 ((HB4.out.setOther _ _ _ (by omega)).set _ _ _) _ rfl) rfl ?_
  exact ⟨_, rfl, HD.out.belowN (n := w.heap.size) (Box.belowSet ((Below.refl _ _).setCell (by show w.heap.size ≤ w.heap.size + 1 + 1; omega) _) (by omega) _ _ _) hgs, hnil _, Only.comp (below3 _ _ _ _) HO.out (Box.belowSet ((Below.refl _ _).setCell (by show w.heap.size ≤ w.heap.size + 1 + 1; omega) _) (by omega) _ _ _)⟩

set_option maxRecDepth 100000 in
set_option maxHeartbeats 1600000 in
theorem d_do1 {w : World} {g : Nat} {l : List ByteArray} (H : Hid (Dq w g l)) (a b : Int) (front : Bool) (s : ByteArray) :
    Calls Try.prog 17 #[.pointer (some ⟨g, 0, none⟩), O.val ⟨1, a, b, front, s⟩] w fun e w' => ∃ lv, e = .returned (ansV l ⟨1, a, b, front, s⟩ lv) ∧ Dq w' g (doL l ⟨1, a, b, front, s⟩) ∧ StrsAt w' lv (ansL l ⟨1, a, b, front, s⟩) ∧ Only w w' g := by
  have hnil : ∀ u : World, StrsAt u (.slice none 0 0) [] := fun u => .inl ⟨rfl, .inl rfl⟩
  have hgs := H.out.lt
  unfold O.val ansV
  rw [show ansS l ⟨1, a, b, front, s⟩ = popS l front from rfl, show ansB l ⟨1, a, b, front, s⟩ = decide (0 < l.length) from rfl, show doL l ⟨1, a, b, front, s⟩ = popped l front from rfl, show ansL l ⟨1, a, b, front, s⟩ = [] from rfl]
  go_enter Try.func17, Try.ntmps17
  go_wp2_with fail
  refine (dq_pop (H.out.below (below3 _ _ _ _)) front).mono ?_
  rintro e w' ⟨rfl, hd, honly⟩
  have HB5 := Lib.hid ((box3 w _ _ _ _ _).only honly (by omega))
  have HB4 := Lib.hid ((box3' w _ _ _ _ _).only honly (by omega))
  have HD := Lib.hid hd
  have HO := Lib.hid (honly)
  have c0 := HB4.out.cell0
  have c1 := HB4.out.cell1
  have c2 := HB4.out.cell2
  have z0 := HB4.out.free 0
  have z1 := HB4.out.free 1
  have z2 := HB4.out.free 2
  have d0 := HB5.out.cell0
  have d1 := HB5.out.cell1
  have d2 := HB5.out.cell2
  have y0 := HB5.out.free 0
  have y1 := HB5.out.free 1
  have y2 := HB5.out.free 2
  clear hd honly
  go_wp2
  refine bodyPost_ret (results17 (((HB4.out.setOther _ _ _ (by omega)).setOther _ _ _ (by omega)).set _ _ _) _ rfl) rfl ?_
  exact ⟨_, rfl, HD.out.belowN (n := w.heap.size) (Box.belowSet (((Below.refl _ _).setCell (by show w.heap.size ≤ w.heap.size + 1 + 1; omega) _).setCell (by show w.heap.size ≤ w.heap.size + 1 + 1; omega) _) (by omega) _ _ _) hgs, hnil _, Only.comp (below3 _ _ _ _) HO.out (Box.belowSet (((Below.refl _ _).setCell (by show w.heap.size ≤ w.heap.size + 1 + 1; omega) _).setCell (by show w.heap.size ≤ w.heap.size + 1 + 1; omega) _) (by omega) _ _ _)⟩

set_option maxRecDepth 100000 in
set_option maxHeartbeats 1600000 in
theorem d_do2 {w : World} {g : Nat} {l : List ByteArray} (H : Hid (Dq w g l)) (a b : Int) (front : Bool) (s : ByteArray) (ha0 : -9223372036854775808 ≤ a) :
    Calls Try.prog 17 #[.pointer (some ⟨g, 0, none⟩), O.val ⟨2, a, b, front, s⟩] w fun e w' => ∃ lv, e = .returned (ansV l ⟨2, a, b, front, s⟩ lv) ∧ Dq w' g (doL l ⟨2, a, b, front, s⟩) ∧ StrsAt w' lv (ansL l ⟨2, a, b, front, s⟩) ∧ Only w w' g := by
  have hnil : ∀ u : World, StrsAt u (.slice none 0 0) [] := fun u => .inl ⟨rfl, .inl rfl⟩
  have hgs := H.out.lt
  unfold O.val ansV
  rw [show ansS l ⟨2, a, b, front, s⟩ = atS l a from rfl, show ansB l ⟨2, a, b, front, s⟩ = (meant l.length a).isSome from rfl, show doL l ⟨2, a, b, front, s⟩ = l from rfl, show ansL l ⟨2, a, b, front, s⟩ = [] from rfl]
  go_enter Try.func17, Try.ntmps17
  go_wp2_with fail
  refine (dq_at' (H.out.below (below3 _ _ _ _)) a ha0).mono ?_
  rintro e w' ⟨rfl, hd, honly⟩
  have HB5 := Lib.hid ((box3 w _ _ _ _ _).only honly (by omega))
  have HB4 := Lib.hid ((box3' w _ _ _ _ _).only honly (by omega))
  have HD := Lib.hid hd
  have HO := Lib.hid (honly)
  have c0 := HB4.out.cell0
  have c1 := HB4.out.cell1
  have c2 := HB4.out.cell2
  have z0 := HB4.out.free 0
  have z1 := HB4.out.free 1
  have z2 := HB4.out.free 2
  have d0 := HB5.out.cell0
  have d1 := HB5.out.cell1
  have d2 := HB5.out.cell2
  have y0 := HB5.out.free 0
  have y1 := HB5.out.free 1
  have y2 := HB5.out.free 2
  clear hd honly
  go_wp2
  refine bodyPost_ret (results17 (((HB4.out.setOther _ _ _ (by omega)).setOther _ _ _ (by omega)).set _ _ _) _ rfl) rfl ?_
  exact ⟨_, rfl, HD.out.belowN (n := w.heap.size) (Box.belowSet (((Below.refl _ _).setCell (by show w.heap.size ≤ w.heap.size + 1 + 1; omega) _).setCell (by show w.heap.size ≤ w.heap.size + 1 + 1; omega) _) (by omega) _ _ _) hgs, hnil _, Only.comp (below3 _ _ _ _) HO.out (Box.belowSet (((Below.refl _ _).setCell (by show w.heap.size ≤ w.heap.size + 1 + 1; omega) _).setCell (by show w.heap.size ≤ w.heap.size + 1 + 1; omega) _) (by omega) _ _ _)⟩

set_option maxRecDepth 100000 in
set_option maxHeartbeats 1600000 in
theorem d_do3 {w : World} {g : Nat} {l : List ByteArray} (H : Hid (Dq w g l)) (a b : Int) (front : Bool) (s : ByteArray) (ha0 : -9223372036854775808 ≤ a) :
    Calls Try.prog 17 #[.pointer (some ⟨g, 0, none⟩), O.val ⟨3, a, b, front, s⟩] w fun e w' => ∃ lv, e = .returned (ansV l ⟨3, a, b, front, s⟩ lv) ∧ Dq w' g (doL l ⟨3, a, b, front, s⟩) ∧ StrsAt w' lv (ansL l ⟨3, a, b, front, s⟩) ∧ Only w w' g := by
  have hnil : ∀ u : World, StrsAt u (.slice none 0 0) [] := fun u => .inl ⟨rfl, .inl rfl⟩
  have hgs := H.out.lt
  unfold O.val ansV
  rw [show ansS l ⟨3, a, b, front, s⟩ = emptyS from rfl, show ansB l ⟨3, a, b, front, s⟩ = (meant l.length a).isSome from rfl, show doL l ⟨3, a, b, front, s⟩ = putP l a s from rfl, show ansL l ⟨3, a, b, front, s⟩ = [] from rfl]
  go_enter Try.func17, Try.ntmps17
  go_wp2_with fail
  refine (dq_put (H.out.below (below3 _ _ _ _)) a s ha0).mono ?_
  rintro e w' ⟨rfl, hd, honly⟩
  have HB5 := Lib.hid ((box3 w _ _ _ _ _).only honly (by omega))
  have HB4 := Lib.hid ((box3' w _ _ _ _ _).only honly (by omega))
  have HD := Lib.hid hd
  have HO := Lib.hid (honly)
  have c0 := HB4.out.cell0
  have c1 := HB4.out.cell1
  have c2 := HB4.out.cell2
  have z0 := HB4.out.free 0
  have z1 := HB4.out.free 1
  have z2 := HB4.out.free 2
  have d0 := HB5.out.cell0
  have d1 := HB5.out.cell1
  have d2 := HB5.out.cell2
  have y0 := HB5.out.free 0
  have y1 := HB5.out.free 1
  have y2 := HB5.out.free 2
  clear hd honly
  go_wp2
  refine bodyPost_ret (results17 ((HB4.out.setOther _ _ _ (by omega)).set _ _ _) _ rfl) rfl ?_
  exact ⟨_, rfl, HD.out.belowN (n := w.heap.size) (Box.belowSet ((Below.refl _ _).setCell (by show w.heap.size ≤ w.heap.size + 1 + 1; omega) _) (by omega) _ _ _) hgs, hnil _, Only.comp (below3 _ _ _ _) HO.out (Box.belowSet ((Below.refl _ _).setCell (by show w.heap.size ≤ w.heap.size + 1 + 1; omega) _) (by omega) _ _ _)⟩

set_option maxRecDepth 100000 in
set_option maxHeartbeats 1600000 in
theorem d_do4 {w : World} {g : Nat} {l : List ByteArray} (H : Hid (Dq w g l)) (a b : Int) (front : Bool) (s : ByteArray) (ha0 : -9223372036854775808 ≤ a) (hb0 : -9223372036854775808 ≤ b) :
    Calls Try.prog 17 #[.pointer (some ⟨g, 0, none⟩), O.val ⟨4, a, b, front, s⟩] w fun e w' => ∃ lv, e = .returned (ansV l ⟨4, a, b, front, s⟩ lv) ∧ Dq w' g (doL l ⟨4, a, b, front, s⟩) ∧ StrsAt w' lv (ansL l ⟨4, a, b, front, s⟩) ∧ Only w w' g := by
  have hnil : ∀ u : World, StrsAt u (.slice none 0 0) [] := fun u => .inl ⟨rfl, .inl rfl⟩
  have hgs := H.out.lt
  unfold O.val ansV
  rw [show ansS l ⟨4, a, b, front, s⟩ = emptyS from rfl, show ansB l ⟨4, a, b, front, s⟩ = false from rfl, show doL l ⟨4, a, b, front, s⟩ = l from rfl, show ansL l ⟨4, a, b, front, s⟩ = ranged l a b from rfl]
  go_enter Try.func17, Try.ntmps17
  go_wp2_with fail
  refine (dq_range' (H.out.below (below3 _ _ _ _)) a b ha0 hb0).mono ?_
  rintro e w' ⟨sp, n, cap, rfl, hs, hd, honly⟩
  have HB5 := Lib.hid ((box3 w _ _ _ _ _).only honly (by omega))
  have HB4 := Lib.hid ((box3' w _ _ _ _ _).only honly (by omega))
  have HD := Lib.hid hd
  have HO := Lib.hid (honly)
  have c0 := HB4.out.cell0
  have c1 := HB4.out.cell1
  have c2 := HB4.out.cell2
  have z0 := HB4.out.free 0
  have z1 := HB4.out.free 1
  have z2 := HB4.out.free 2
  have d0 := HB5.out.cell0
  have d1 := HB5.out.cell1
  have d2 := HB5.out.cell2
  have y0 := HB5.out.free 0
  have y1 := HB5.out.free 1
  have y2 := HB5.out.free 2
  clear hd honly
  have HS := Lib.hid hs
  clear hs
  go_wp2
  refine bodyPost_ret (results17 ((HB4.out.setOther _ _ _ (by omega)).set _ _ _) _ rfl) rfl ?_
  exact ⟨_, rfl, HD.out.belowN (n := w.heap.size) (Box.belowSet ((Below.refl _ _).setCell (by show w.heap.size ≤ w.heap.size + 1 + 1; omega) _) (by omega) _ _ _) hgs, StrsAt.setBox (HB4.out.setOther _ _ _ (by omega)) (HS.out.setOne HB5.out) _ _ _, Only.comp (below3 _ _ _ _) HO.out (Box.belowSet ((Below.refl _ _).setCell (by show w.heap.size ≤ w.heap.size + 1 + 1; omega) _) (by omega) _ _ _)⟩

set_option maxRecDepth 100000 in
set_option maxHeartbeats 1600000 in
theorem d_do5 {w : World} {g : Nat} {l : List ByteArray} (H : Hid (Dq w g l)) (a b : Int) (front : Bool) (s : ByteArray) (ha0 : -9223372036854775808 ≤ a) (hb0 : -9223372036854775808 ≤ b) :
    Calls Try.prog 17 #[.pointer (some ⟨g, 0, none⟩), O.val ⟨5, a, b, front, s⟩] w fun e w' => ∃ lv, e = .returned (ansV l ⟨5, a, b, front, s⟩ lv) ∧ Dq w' g (doL l ⟨5, a, b, front, s⟩) ∧ StrsAt w' lv (ansL l ⟨5, a, b, front, s⟩) ∧ Only w w' g := by
  have hnil : ∀ u : World, StrsAt u (.slice none 0 0) [] := fun u => .inl ⟨rfl, .inl rfl⟩
  have hgs := H.out.lt
  unfold O.val ansV
  rw [show ansS l ⟨5, a, b, front, s⟩ = emptyS from rfl, show ansB l ⟨5, a, b, front, s⟩ = false from rfl, show doL l ⟨5, a, b, front, s⟩ = ranged l a b from rfl, show ansL l ⟨5, a, b, front, s⟩ = [] from rfl]
  go_enter Try.func17, Try.ntmps17
  go_wp2_with fail
  refine (dq_trim (H.out.below (below3 _ _ _ _)) a b ha0 hb0).mono ?_
  rintro e w' ⟨rfl, hd, honly⟩
  have HB5 := Lib.hid ((box3 w _ _ _ _ _).only honly (by omega))
  have HB4 := Lib.hid ((box3' w _ _ _ _ _).only honly (by omega))
  have HD := Lib.hid hd
  have HO := Lib.hid (honly)
  have c0 := HB4.out.cell0
  have c1 := HB4.out.cell1
  have c2 := HB4.out.cell2
  have z0 := HB4.out.free 0
  have z1 := HB4.out.free 1
  have z2 := HB4.out.free 2
  have d0 := HB5.out.cell0
  have d1 := HB5.out.cell1
  have d2 := HB5.out.cell2
  have y0 := HB5.out.free 0
  have y1 := HB5.out.free 1
  have y2 := HB5.out.free 2
  clear hd honly
  go_wp2
  refine bodyPost_ret (results17 (HB4.out.set _ _ _) _ rfl) rfl ?_
  exact ⟨_, rfl, HD.out.belowN (n := w.heap.size) (Box.belowSet (Below.refl _ _) (by omega) _ _ _) hgs, hnil _, Only.comp (below3 _ _ _ _) HO.out (Box.belowSet (Below.refl _ _) (by omega) _ _ _)⟩

set_option maxRecDepth 100000 in
theorem d_do_none {w : World} {g : Nat} {l : List ByteArray} (H : Hid (Dq w g l)) (o : O) (h0 : ¬ o.kind = 0) (h1 : ¬ o.kind = 1) (h2 : ¬ o.kind = 2) (h3 : ¬ o.kind = 3) (h4 : ¬ o.kind = 4) (h5 : ¬ o.kind = 5) :
    Calls Try.prog 17 #[.pointer (some ⟨g, 0, none⟩), o.val] w fun e w' => ∃ lv, e = .returned (ansV l o lv) ∧ Dq w' g (doL l o) ∧ StrsAt w' lv (ansL l o) ∧ Only w w' g := by
  have hnil : ∀ u : World, StrsAt u (.slice none 0 0) [] := fun u => .inl ⟨rfl, .inl rfl⟩
  unfold O.val ansV
  rw [show ansS l o = emptyS by simp [ansS, h1, h2], show ansB l o = false by simp [ansB, h0, h1, h2, h3], show doL l o = l by simp [doL, h0, h1, h2, h3, h4, h5], show ansL l o = [] by simp [ansL, h4]]
  obtain ⟨kind, a, b, front, s⟩ := o
  simp only at h0 h1 h2 h3 h4 h5
  go_enter Try.func17, Try.ntmps17
  go_wp2
  refine bodyPost_ret (results17 (box3' w _ _ _ _ _) _ rfl) rfl ?_
  exact ⟨_, rfl, H.out.below (below3 _ _ _ _), hnil _, below_only (below3 _ _ _ _) g⟩

theorem d_do {w : World} {g : Nat} {l : List ByteArray} (h : Dq w g l) (o : O) (ho : o.Ok) :
    Calls Try.prog 17 #[.pointer (some ⟨g, 0, none⟩), o.val] w fun e w' => ∃ lv, e = .returned (ansV l o lv) ∧ Dq w' g (doL l o) ∧ StrsAt w' lv (ansL l o) ∧ Only w w' g := by
  have H := Lib.hid h
  by_cases h0 : o.kind = 0
  · obtain ⟨kind, a, b, front, s⟩ := o
    subst h0
    exact d_do0 H a b front s
  by_cases h1 : o.kind = 1
  · obtain ⟨kind, a, b, front, s⟩ := o
    subst h1
    exact d_do1 H a b front s
  by_cases h2 : o.kind = 2
  · obtain ⟨kind, a, b, front, s⟩ := o
    subst h2
    exact d_do2 H a b front s ho.a0
  by_cases h3 : o.kind = 3
  · obtain ⟨kind, a, b, front, s⟩ := o
    subst h3
    exact d_do3 H a b front s ho.a0
  by_cases h4 : o.kind = 4
  · obtain ⟨kind, a, b, front, s⟩ := o
    subst h4
    exact d_do4 H a b front s ho.a0 ho.b0
  by_cases h5 : o.kind = 5
  · obtain ⟨kind, a, b, front, s⟩ := o
    subst h5
    exact d_do5 H a b front s ho.a0 ho.b0
  exact d_do_none H o h0 h1 h2 h3 h4 h5
end Go.Proofs.Ytemacgcklgdhpaa
