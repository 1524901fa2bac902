/- The walk of DequeMirror. -/
import Derived.Test.YtemacgcklgdhpaaLaws
namespace Go.Proofs.Ytemacgcklgdhpaa
open Go.RowKit

theorem pushed_mirror (l : List ByteArray) (f : Bool) (s : ByteArray) : pushed l.reverse (!f) s = (pushed l f s).reverse := by
  unfold pushed
  rw [List.length_reverse]
  by_cases h : l.length < 256
  · rw [if_pos h, if_pos h]
    cases f <;> simp
  · rw [if_neg h, if_neg h]
theorem popped_mirror (l : List ByteArray) (f : Bool) : popped l.reverse (!f) = (popped l f).reverse := by
  unfold popped
  cases f <;> simp
theorem popS_mirror (l : List ByteArray) (f : Bool) : popS l.reverse (!f) = popS l f := by
  unfold popS
  rw [List.length_reverse]
  by_cases h : l.length = 0
  · rw [if_pos h, if_pos h]
  · rw [if_neg h, if_neg h]
    cases f
    · simp only [Bool.not_false, if_true, Bool.false_eq_true, if_false, List.getD]
      rw [List.getElem?_reverse (by omega)]
      rfl
    · simp only [Bool.not_true, if_true, Bool.false_eq_true, if_false, List.getD]
      rw [List.getElem?_reverse (by omega)]
      congr 2
      omega

theorem mirror_do (l : List ByteArray) (kind a b : Int) (f : Bool) (s : ByteArray) (hk : kind = 0 ∨ kind = 1) :
    doL l.reverse ⟨kind, a, b, !f, s⟩ = (doL l ⟨kind, a, b, f, s⟩).reverse ∧ ansS l.reverse ⟨kind, a, b, !f, s⟩ = ansS l ⟨kind, a, b, f, s⟩ ∧ ansB l.reverse ⟨kind, a, b, !f, s⟩ = ansB l ⟨kind, a, b, f, s⟩ := by
  rcases hk with rfl | rfl
  · exact ⟨pushed_mirror l f s, rfl, by show decide _ = decide _; rw [List.length_reverse]⟩
  · exact ⟨popped_mirror l f, popS_mirror l f, by show decide _ = decide _; rw [List.length_reverse]⟩

theorem Box5.set {w : World} {g : Nat} {kind a b : Int} {f : Bool} {s : ByteArray} (h : Box5 w g ⟨kind, a, b, f, s⟩) (f' : Bool) : Box5 (w.setCell ⟨g, 3, none⟩ (.bool f')) g ⟨kind, a, b, f', s⟩ :=
  ⟨heap_setCell_same w g 3 _ 39 (.bool f') h.heap⟩

/-- what the two deques do with one call, and with its mirror -/
theorem mirror_round {L : List ByteArray} {kind a b : Int} {f : Bool} {s : ByteArray} (hk : kind = 0 ∨ kind = 1) (hok : (⟨kind, a, b, f, s⟩ : O).Ok) :
    ∃ (L' : List ByteArray) (S : ByteArray) (B : Bool),
      (∀ (u : World) (g : Nat), Dq u g L → Calls Try.prog 17 #[.pointer (some ⟨g, 0, none⟩), .agg #[.int .i64 kind, .int .i64 a, .int .i64 b, .bool f, .string s]] u fun e u' => ∃ sp n cap, e = .returned (.agg #[.string S, .bool B, .slice sp n cap]) ∧ Dq u' g L' ∧ Only u u' g) ∧
      (∀ (u : World) (g : Nat), Dq u g L.reverse → Calls Try.prog 17 #[.pointer (some ⟨g, 0, none⟩), .agg #[.int .i64 kind, .int .i64 a, .int .i64 b, .bool !f, .string s]] u fun e u' => ∃ sp n cap, e = .returned (.agg #[.string S, .bool B, .slice sp n cap]) ∧ Dq u' g L'.reverse ∧ Only u u' g) := by
  obtain ⟨m1, m2, m3⟩ := mirror_do L kind a b f s hk
  refine ⟨doL L ⟨kind, a, b, f, s⟩, ansS L ⟨kind, a, b, f, s⟩, ansB L ⟨kind, a, b, f, s⟩, fun u g hu => ?_, fun u g hu => ?_⟩
  · refine (d_do hu ⟨kind, a, b, f, s⟩ hok).mono ?_
    rintro e u' ⟨lv, rfl, h1, h2, h3⟩
    obtain ⟨sp, cap, rfl, _⟩ := h2.form
    exact ⟨_, _, _, rfl, h1, h3⟩
  · refine (d_do hu ⟨kind, a, b, !f, s⟩ ⟨hok.a0, hok.a1, hok.b0, hok.b1⟩).mono ?_
    rintro e u' ⟨lv, rfl, h1, h2, h3⟩
    obtain ⟨sp, cap, rfl, _⟩ := h2.form
    rw [m1] at h1
    unfold ansV
    rw [m2, m3]
    exact ⟨_, _, _, rfl, h1, h3⟩

set_option maxRecDepth 100000 in
set_option maxHeartbeats 1600000 in
theorem mirror_walk {w : World} {sv : Value} {os : List O} (h : OpsIn w sv os) : Calls Try.prog 6 #[sv] w fun e w' => e = .returned (.bool true) ∧ Below w.heap.size w w' := by
  obtain ⟨sp, cap, rfl, hok, hc⟩ := h
  by_cases hn : os.length ≤ 1000
  · have hnI : ¬ (1000 : Int) < os.length := by omega
    have HOk := Lib.hid hok
    have HC := Lib.hid hc
    clear hok hc
    go_enter Try.func6, Try.ntmps6
    go_wp2_with fail
    refine (dq_new w).mono ?_
    rintro e w1 ⟨rfl, hd, hb, hsz⟩
    have HD1 := Lib.hid hd
    have HB1 := Lib.hid hb
    clear hd hb
    go_wp2_with fail
    refine (dq_new w1).mono ?_
    rintro e w2 ⟨rfl, hm, hb, hsz2⟩
    have HD2 := Lib.hid (HD1.out.below hb)
    have HM2 := Lib.hid hm
    have HB2 := Lib.hid (HB1.out.trans (hb.mono (by omega)))
    clear hm hb
    generalize hgm : w1.heap.size = gm at *
    have hg : w.heap.size ≠ gm := by omega
    clear hgm
    go_wp2_with fail
    go_loopw [36] (fun i wr => ∃ (k : Nat) (L : List ByteArray), k ≤ os.length ∧ i = .int .i64 k ∧ Dq wr w.heap.size L ∧ Dq wr gm L.reverse ∧ Below w.heap.size w wr) (fun i _ => os.length - (intOf i).toNat)
    case atStart => exact ⟨0, [], Nat.zero_le _, rfl, HD2.out, HM2.out, HB2.out⟩
    case round =>
      obtain ⟨k, L, hk, rfl, hd, hm, hb⟩ := hrel
      have HD := Lib.hid hd
      have HM := Lib.hid hm
      have HB := Lib.hid hb
      have gr := hb.size
      have grd := hd.lt
      have grm := hm.lt
      clear hd hm hb
      by_cases hlt : k < os.length
      · obtain ⟨bs, off, rfl, hbs, hcc⟩ := HC.out (by omega)
        obtain ⟨c0, c1, c2, c3, c4⟩ := hcc k hlt
        have HokK := Lib.hid (HOk.out (os.getD k default) (by simp [List.getD, List.getElem?_eq_getElem hlt]))
        generalize os.getD k default = o at *
        obtain ⟨kind, a, b, front, s⟩ := o
        simp only at c0 c1 c2 c3 c4
        have hcell : ∀ j, wr.cell? ⟨bs, j, none⟩ = w.cell? ⟨bs, j, none⟩ := fun j => HB.out.cell (p := ⟨bs, j, none⟩) hbs
        rw [← hcell] at c0 c1 c2 c3 c4
        have hki : (0 : Int) ≤ (k : Int) ∧ (k : Int) < os.length := by omega
        clear hcc hcell
        by_cases hkind : kind = 0 ∨ kind = 1
        · obtain ⟨L', S, B, hr1, hr2⟩ := mirror_round (L := L) hkind HokK.out
          have hbA : Below wr.heap.size wr (wr.alloc (.cells #[.int .i64 kind, .int .i64 a, .int .i64 b, .bool front, .string s] 39)) := (Below.refl _ _).alloc (Nat.le_refl _) _
          have hbox : Box5 (wr.alloc (.cells #[.int .i64 kind, .int .i64 a, .int .i64 b, .bool front, .string s] 39)) wr.heap.size ⟨kind, a, b, front, s⟩ := ⟨heap_alloc_new wr _⟩
          have HR1 := Lib.hid (hr1 _ _ (HD.out.below hbA))
          have HR2 := Lib.hid hr2
          have HBox := Lib.hid hbox
          have HMA := Lib.hid (HM.out.below hbA)
          have HBA := Lib.hid (HB.out.trans (hbA.mono gr))
          clear hr1 hr2 hbox hbA
          rcases hkind with rfl | rfl
          · go_wp2_with fail
            refine HR1.out.mono ?_
            rintro e w3 ⟨sp1, n1, cap1, rfl, hd3, ho3⟩
            have hbox3 := HBox.out.only ho3 (by omega)
            have HM3 := Lib.hid (HMA.out.only ho3 (Ne.symm hg))
            have HD3 := Lib.hid hd3
            have g3 : wr.heap.size < w3.heap.size := by have := ho3.size; simp at this; omega
            have HB3 := Lib.hid (ho3.new HBA.out (Nat.le_refl _) (by simp; omega))
            obtain ⟨f0, f1, f2, f3, f4⟩ := hbox3.cells
            simp only at f0 f1 f2 f3 f4
            have z3 := frozen_of_row w3 wr.heap.size 3 _ 39 hbox3.heap
            have hso : Only w3 (w3.setCell ⟨wr.heap.size, 3, none⟩ (.bool !front)) wr.heap.size := Only.setCell _ _ _ _
            have hsz3 : (w3.setCell ⟨wr.heap.size, 3, none⟩ (.bool !front)).heap.size = w3.heap.size := by simp [World.setCell]
            have hbB : Below w3.heap.size (w3.setCell ⟨wr.heap.size, 3, none⟩ (.bool !front)) ((w3.setCell ⟨wr.heap.size, 3, none⟩ (.bool !front)).alloc (.cells #[.string S, .bool B, .slice sp1 n1 cap1] 41)) := (Below.refl _ _).alloc (Nat.le_of_eq hsz3.symm) _
            have hboxS : Box ((w3.setCell ⟨wr.heap.size, 3, none⟩ (.bool !front)).alloc (.cells #[.string S, .bool B, .slice sp1 n1 cap1] 41)) w3.heap.size (.string S) (.bool B) (.slice sp1 n1 cap1) :=
              ⟨by have := heap_alloc_new (w3.setCell ⟨wr.heap.size, 3, none⟩ (.bool !front)) (.cells #[.string S, .bool B, .slice sp1 n1 cap1] 41); rw [hsz3] at this; exact this⟩
            have HM4 := Lib.hid ((HM3.out.only hso (by omega)).belowN hbB (by omega))
            have HD4 := Lib.hid ((HD3.out.only hso (by omega)).belowN hbB (by omega))
            have HB4 := Lib.hid ((HB3.out.setCell (p := ⟨wr.heap.size, 3, none⟩) (by show w.heap.size ≤ wr.heap.size; omega) (.bool !front)).trans (hbB.mono (by omega)))
            have HBoxS := Lib.hid hboxS
            clear hbox3 hd3 ho3 hbB hboxS hso hsz3 c0 c1 c2 c3 c4
            go_wp2_with fail
            refine (HR2.out _ gm HM4.out).mono ?_
            rintro e w4 ⟨sp2, n2, cap2, rfl, hm5, ho5⟩
            have hboxS5 := HBoxS.out.only ho5 (by omega)
            have b0 := hboxS5.cell0
            have b1 := hboxS5.cell1
            have g5 : w3.heap.size < w4.heap.size := by have := ho5.size; simp [World.setCell] at this; omega
            have HM5 := Lib.hid hm5
            have HD5 := Lib.hid (HD4.out.only ho5 hg)
            have HB5 := Lib.hid (ho5.new HB4.out (by omega) (by simp [World.setCell]; omega))
            clear hm5 ho5 hboxS5 f0 f1 f2 f3 f4 z3
            have HBC : Hid (Below w4.heap.size w4 (w4.alloc (.cells #[.string S, .bool B, .slice sp2 n2 cap2] 41))) := (Below.refl _ _).alloc (Nat.le_refl _) _
            go_wp2
            go_roundw
            case rel => exact ⟨k + 1, L', by omega, by go_num, HD5.out.below HBC.out, HM5.out.below HBC.out, HB5.out.trans (HBC.out.mono (by omega))⟩
            case measure => simp [intOf]; omega
          · go_wp2_with fail
            refine HR1.out.mono ?_
            rintro e w3 ⟨sp1, n1, cap1, rfl, hd3, ho3⟩
            have hbox3 := HBox.out.only ho3 (by omega)
            have HM3 := Lib.hid (HMA.out.only ho3 (Ne.symm hg))
            have HD3 := Lib.hid hd3
            have g3 : wr.heap.size < w3.heap.size := by have := ho3.size; simp at this; omega
            have HB3 := Lib.hid (ho3.new HBA.out (Nat.le_refl _) (by simp; omega))
            obtain ⟨f0, f1, f2, f3, f4⟩ := hbox3.cells
            simp only at f0 f1 f2 f3 f4
            have z3 := frozen_of_row w3 wr.heap.size 3 _ 39 hbox3.heap
            have hso : Only w3 (w3.setCell ⟨wr.heap.size, 3, none⟩ (.bool !front)) wr.heap.size := Only.setCell _ _ _ _
            have hsz3 : (w3.setCell ⟨wr.heap.size, 3, none⟩ (.bool !front)).heap.size = w3.heap.size := by simp [World.setCell]
            have hbB : Below w3.heap.size (w3.setCell ⟨wr.heap.size, 3, none⟩ (.bool !front)) ((w3.setCell ⟨wr.heap.size, 3, none⟩ (.bool !front)).alloc (.cells #[.string S, .bool B, .slice sp1 n1 cap1] 41)) := (Below.refl _ _).alloc (Nat.le_of_eq hsz3.symm) _
            have hboxS : Box ((w3.setCell ⟨wr.heap.size, 3, none⟩ (.bool !front)).alloc (.cells #[.string S, .bool B, .slice sp1 n1 cap1] 41)) w3.heap.size (.string S) (.bool B) (.slice sp1 n1 cap1) :=
              ⟨by have := heap_alloc_new (w3.setCell ⟨wr.heap.size, 3, none⟩ (.bool !front)) (.cells #[.string S, .bool B, .slice sp1 n1 cap1] 41); rw [hsz3] at this; exact this⟩
            have HM4 := Lib.hid ((HM3.out.only hso (by omega)).belowN hbB (by omega))
            have HD4 := Lib.hid ((HD3.out.only hso (by omega)).belowN hbB (by omega))
            have HB4 := Lib.hid ((HB3.out.setCell (p := ⟨wr.heap.size, 3, none⟩) (by show w.heap.size ≤ wr.heap.size; omega) (.bool !front)).trans (hbB.mono (by omega)))
            have HBoxS := Lib.hid hboxS
            clear hbox3 hd3 ho3 hbB hboxS hso hsz3 c0 c1 c2 c3 c4
            go_wp2_with fail
            refine (HR2.out _ gm HM4.out).mono ?_
            rintro e w4 ⟨sp2, n2, cap2, rfl, hm5, ho5⟩
            have hboxS5 := HBoxS.out.only ho5 (by omega)
            have b0 := hboxS5.cell0
            have b1 := hboxS5.cell1
            have g5 : w3.heap.size < w4.heap.size := by have := ho5.size; simp [World.setCell] at this; omega
            have HM5 := Lib.hid hm5
            have HD5 := Lib.hid (HD4.out.only ho5 hg)
            have HB5 := Lib.hid (ho5.new HB4.out (by omega) (by simp [World.setCell]; omega))
            clear hm5 ho5 hboxS5 f0 f1 f2 f3 f4 z3
            have HBC : Hid (Below w4.heap.size w4 (w4.alloc (.cells #[.string S, .bool B, .slice sp2 n2 cap2] 41))) := (Below.refl _ _).alloc (Nat.le_refl _) _
            go_wp2
            go_roundw
            case rel => exact ⟨k + 1, L', by omega, by go_num, HD5.out.below HBC.out, HM5.out.below HBC.out, HB5.out.trans (HBC.out.mono (by omega))⟩
            case measure => simp [intOf]; omega
        · have hk0 : ¬ kind = 0 := fun h => hkind (.inl h)
          have hk1 : ¬ kind = 1 := fun h => hkind (.inr h)
          have hk2 : (kind != 0) = true := by simp [hk0]
          have hk3 : (kind != 1) = true := by simp [hk1]
          clear HokK
          have HBC : Hid (Below wr.heap.size wr (wr.alloc (.cells #[.int .i64 kind, .int .i64 a, .int .i64 b, .bool front, .string s] 39))) := (Below.refl _ _).alloc (Nat.le_refl _) _
          go_wp2
          go_roundw
          case rel => exact ⟨k + 1, L, by omega, by go_num, HD.out.below HBC.out, HM.out.below HBC.out, HB.out.trans (HBC.out.mono gr)⟩
          case measure => simp [intOf]; omega
      · have hkn : k = os.length := by omega
        subst hkn
        have HLe := Lib.hid HD.out.le
        go_wp2_with fail
        refine (dq_range HD.out 0 (-1) (by decide) (by decide)).mono ?_
        rintro e w3 ⟨v3, rfl, hs, hb⟩
        rw [ranged_all] at hs
        have HS3 := Lib.hid hs
        have HM3 := Lib.hid (HM.out.below hb)
        have HB3 := Lib.hid (HB.out.trans (hb.mono gr))
        have g3 := hb.size
        clear hs hb
        go_wp2_with fail
        refine (dq_range HM3.out 0 (-1) (by decide) (by decide)).mono ?_
        rintro e w4 ⟨v4, rfl, hs, hb⟩
        rw [ranged_all] at hs
        obtain ⟨sp1, cap1, rfl, _, _, hc1⟩ := (HS3.out.below hb).form
        obtain ⟨sp2, cap2, e2, _, _, hc2⟩ := hs.form
        rw [List.length_reverse] at e2 hc2
        subst e2
        have HC1 := Lib.hid hc1
        have HC2 := Lib.hid hc2
        have HB4 := Lib.hid (HB3.out.trans (hb.mono (by omega)))
        have g4 := hb.size
        clear hs hb hc1 hc2
        go_wp2_with fail
        go_loopw [77] (fun i wx => ∃ j : Nat, j ≤ L.length ∧ i = .int .i64 j ∧ Below w4.heap.size w4 wx) (fun i _ => L.length - (intOf i).toNat)
        case atStart => exact ⟨0, Nat.zero_le _, rfl, Below.refl _ _⟩
        case round =>
          obtain ⟨j, hj, rfl, hb⟩ := hrel
          have HBj := Lib.hid hb
          have gj := hb.size
          clear hb
          by_cases hjl : j < L.length
          · obtain ⟨b1, o1, rfl, _, c1⟩ := HC1.out (by omega)
            obtain ⟨b2, o2, rfl, _, c2⟩ := HC2.out (by omega)
            obtain ⟨q, hq⟩ : ∃ q, q = L.length - 1 - j := ⟨_, rfl⟩
            have d1 := c1 j hjl
            have d2 := c2 q (by omega)
            have e1 := (HBj.out.cell (p := ⟨b1, o1 + j, none⟩) (block_lt_of_cell d1)).trans d1
            have e2 := (HBj.out.cell (p := ⟨b2, o2 + q, none⟩) (block_lt_of_cell d2)).trans d2
            have hrev : L.reverse.getD q emptyS = L.getD j emptyS := by
              simp only [List.getD]
              rw [List.getElem?_reverse (by omega), show L.length - 1 - q = j by omega]
            rw [hrev] at e2
            generalize L.getD j emptyS = t at *
            have hqi : (L.length : Int) - 1 - j = q := by omega
            have hji : (0 : Int) ≤ (j : Int) ∧ (j : Int) < L.length := by omega
            have hq2 : (0 : Int) ≤ (q : Int) ∧ (q : Int) < L.length := by omega
            have hle : (L.length : Int) ≤ 256 := by have := HLe.out; omega
            clear c1 c2 d1 d2 hrev hq
            go_wp2_with fail
            go_quiet (fail)
            go_wp2
            go_roundw
            case rel => exact ⟨j + 1, by omega, by go_num, below_drewN HBj.out _⟩
            case measure => simp [intOf]; omega
          · have hjn : j = L.length := by omega
            subst hjn
            go_wp2_with fail
            refine (alive_walk _).mono ?_
            rintro e w5 ⟨rfl, hb⟩
            have HB5 := Lib.hid (HB4.out.trans ((HBj.out.mono (by omega)).trans (hb.mono (by omega))))
            clear hb
            go_wp2
            go_ret
            exact ⟨rfl, HB5.out⟩
  · have hnI : (1000 : Int) < os.length := by omega
    go_enter Try.func6, Try.ntmps6
    go_wp2_with fail
    refine (dq_new w).mono ?_
    rintro e w1 ⟨rfl, hd, hb, hsz⟩
    have HB1 := Lib.hid hb
    clear hd hb
    go_wp2_with fail
    refine (dq_new w1).mono ?_
    rintro e w2 ⟨rfl, hm, hb, hsz2⟩
    have HB2 := Lib.hid (HB1.out.trans (hb.mono (by omega)))
    clear hm hb
    go_wp2_with fail
    refine (alive_walk w2).mono ?_
    rintro e w3 ⟨rfl, hb⟩
    have HB3 := Lib.hid (HB2.out.trans (hb.mono (by omega)))
    clear hb
    go_wp2
    go_ret
    exact ⟨rfl, HB3.out⟩
end Go.Proofs.Ytemacgcklgdhpaa
