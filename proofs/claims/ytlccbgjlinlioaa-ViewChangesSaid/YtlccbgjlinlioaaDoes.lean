/- Take whole; does: a call on a view. -/
import Derived.Test.YtlccbgjlinlioaaTakeC
namespace Go.Proofs.Ytlccbgjlinlioaa
open Go.RowKit

/-- what Take does not look at -/
def VS.refuses (s : VS) (p : PK) : Bool := !p.right || decide (4611686018427387904 < p.cur) || decide (p.frm = s.self) || decide (p.kind = 3 ∧ p.of = s.self)
/-- whose claims a packet tells -/
def PK.who (p : PK) : Nat := if p.kind = 3 then p.of.toNat else p.frm.toNat
def VS.takeD (s : VS) (p : PK) : VS := if s.refuses p = true then s else if p.kind = 3 then s.took p p.who else (s.took p p.who).raised p p.who
def VS.takeL (s : VS) (p : PK) : List PK := if s.refuses p = true then [] else if p.kind = 3 then [] else ((s.took p p.who).raised p p.who).pong p ++ ((s.took p p.who).raised p p.who).upd p

theorem PK.right_facts {p : PK} (h : p.right = true) : (0 ≤ p.frm ∧ p.frm < 64) ∧ p.ep ≤ p.cur ∧ (p.kind = 3 → 0 ≤ p.of ∧ p.of < 64) := by
  unfold PK.right at h
  simp only [Bool.and_eq_true, decide_eq_true_eq] at h
  obtain ⟨h1, h2, h3⟩ := h
  refine ⟨inNode_true h2, h3, fun hk => ?_⟩
  unfold PK.form at h1
  rw [hk] at h1
  simp at h1
  exact inNode_true h1

/-- what a packet that is not refused fulfils -/
theorem VS.taken {s : VS} {p : PK} (h : s.refuses p = false) : p.right = true ∧ p.cur ≤ 4611686018427387904 ∧ p.frm ≠ s.self ∧ ¬ (p.kind = 3 ∧ p.of = s.self) := by
  unfold VS.refuses at h
  simp only [Bool.or_eq_false_iff, decide_eq_false_iff_not, Bool.not_eq_false'] at h
  exact ⟨h.1.1.1, by have := h.1.1.2; omega, h.1.2, h.2⟩

theorem PK.who_lt {p : PK} (h : p.right = true) : p.who < 64 := by
  obtain ⟨h1, _, h3⟩ := PK.right_facts h
  unfold PK.who
  split
  · rename_i hk; have := h3 hk; omega
  · omega

theorem VS.Ok.takeD {s : VS} {M : Int} (h : s.Ok M) (hM : 4611686018427387904 ≤ M) {p : PK} (hp : p.Ok) : (s.takeD p).Ok (M + 1) := by
  unfold VS.takeD
  cases hr : s.refuses p with
  | true => simp only [if_true]; exact h.up (by omega)
  | false =>
    obtain ⟨h1, h2, h3, h4⟩ := VS.taken hr
    obtain ⟨f1, f2, f3⟩ := PK.right_facts h1
    have hw := PK.who_lt h1
    have hok := h.took hM hp h2 f2 p.who hw
    simp only [Bool.false_eq_true, if_false]
    split
    · exact hok.up (by omega)
    · exact hok.raised p p.who

theorem RowAt.mono {w : World} {B B' : Nat} {v : Value} {l : List PK} (h : RowAt w B v l) (hB : B' ≤ B) : RowAt w B' v l := by
  refine ⟨h.1, ?_⟩
  rcases h.2 with hn | ⟨g, cap, cur, rfl, hg, rest⟩
  · exact .inl hn
  · exact .inr ⟨g, cap, cur, rfl, by omega, rest⟩

theorem take_any {w : World} {g : Nat} {s : VS} (h : ViewAt w g s) {M : Int} (hok : s.Ok M) (hM : 4611686018427387904 ≤ M) (hM2 : M ≤ 9223372036854775806) {p : PK} (hp : p.Ok) :
    Calls Try.prog 13 #[.pointer (some ⟨g, 0, none⟩), p.val] w fun e w' => ∃ v, e = .returned v ∧ RowAt w' w.heap.size v (s.takeL p) ∧ ViewAt w' g (s.takeD p) ∧ Only w w' g := by
  cases hr : s.refuses p with
  | true =>
    have hD : s.takeD p = s := by unfold VS.takeD; rw [if_pos hr]
    have hL : s.takeL p = [] := by unfold VS.takeL; rw [if_pos hr]
    rw [hD, hL]
    have key : Calls Try.prog 13 #[.pointer (some ⟨g, 0, none⟩), p.val] w fun e w' => e = .returned (.slice none 0 0) ∧ TakeW w g s p w' := by
      cases h1 : p.right with
      | false => exact take_no1 h h1
      | true =>
        by_cases h2 : 4611686018427387904 < p.cur
        · exact take_no2 h h1 h2
        · by_cases h3 : p.frm = s.self
          · exact take_no3 h h1 (by omega) h3
          · have h4 : p.kind = 3 ∧ p.of = s.self := by
              unfold VS.refuses at hr
              simp only [h1, Bool.not_true, Bool.false_or, Bool.or_eq_true, decide_eq_true_eq] at hr
              rcases hr with (hr | hr) | hr
              · exact absurd hr h2
              · exact absurd hr h3
              · exact hr
            exact take_no4 h h1 (by omega) h3 h4.1 h4.2
    exact key.mono fun e w' ⟨he, ht⟩ => ⟨_, he, RowAt.nil _ _, ht.view, ht.only⟩
  | false =>
    obtain ⟨h1, h2, h3, h4⟩ := VS.taken hr
    obtain ⟨f1, f2, f3⟩ := PK.right_facts h1
    have hw := PK.who_lt h1
    by_cases hk : p.kind = 3
    · have hD : s.takeD p = s.took p p.who := by unfold VS.takeD; rw [if_neg (by rw [hr]; decide), if_pos hk]
      have hL : s.takeL p = [] := by unfold VS.takeL; rw [if_neg (by rw [hr]; decide), if_pos hk]
      have ho : p.of = p.who := by
        unfold PK.who
        rw [if_pos hk]
        have := f3 hk
        omega
      rw [hD, hL]
      exact (take_upd h hok hM hp h1 h2 f2 h3 hk p.who hw ho (fun e => h4 ⟨hk, e⟩)).mono fun e w' ⟨he, ht⟩ => ⟨_, he, RowAt.nil _ _, ht.view, ht.only⟩
    · have hD : s.takeD p = (s.took p p.who).raised p p.who := by unfold VS.takeD; rw [if_neg (by rw [hr]; decide), if_neg hk]
      have hL : s.takeL p = ((s.took p p.who).raised p p.who).pong p ++ ((s.took p p.who).raised p p.who).upd p := by unfold VS.takeL; rw [if_neg (by rw [hr]; decide), if_neg hk]
      have ho : p.frm = p.who := by
        unfold PK.who
        rw [if_neg hk]
        omega
      rw [hD, hL]
      exact (take_non h hok hM hM2 hp h1 h2 f2 hk p.who hw ho h3).mono fun e w' ⟨v, he, hrow, ht⟩ => ⟨v, he, hrow.mono (by omega), ht.view, ht.only⟩

/-- a call -/
structure OPV where
  kind : Int
  slot : Int
  node : Int
  least : Int
  p : PK

structure OPV.Ok (o : OPV) : Prop where
  least : 0 ≤ o.least
  p : o.p.Ok

def OPV.cells (o : OPV) : List Value := [.int .i64 o.kind, .int .i64 o.slot, .int .i64 o.node, .int .u64 o.least] ++ o.p.cells
def OPV.val (o : OPV) : Value := .agg o.cells.toArray
theorem OPV.cells_len (o : OPV) : o.cells.length = 265 := by simp [OPV.cells, PK.cells_len]

def VS.doesD (s : VS) (o : OPV) : VS := if o.kind = 0 then s.takeD o.p else if o.kind = 1 then s.winD o.slot o.least else if o.kind = 2 then s.giveD o.slot o.node else s
def VS.doesL (s : VS) (o : OPV) : List PK := if o.kind = 0 then s.takeL o.p else []
def VS.doesE (o : OPV) : Int := if o.kind = 0 then 0 else if o.kind = 1 then winE o.slot o.least else if o.kind = 2 then giveE o.slot o.node else 0

theorem VS.Ok.winD {s : VS} {M : Int} (h : s.Ok M) (hM : 4611686018427387904 ≤ M) (k least : Int) (hl : 0 ≤ least) : (s.winD k least).Ok (M + 1) := by
  unfold VS.winD
  split
  · rename_i hc
    have hs := h.self
    have hcu := h.cur
    have h1 := h.setOwn k.toNat s.self (by omega)
    have h2 : ((s.setOwn k.toNat s.self).setCur (max s.cur least)).Ok M := h1.setCur _ (by show s.cur ≤ max s.cur least; omega) (by omega)
    exact h2.raise
  · exact h.up (by omega)
theorem VS.Ok.giveD {s : VS} {M : Int} (h : s.Ok M) (k n : Int) : (s.giveD k n).Ok M := by
  unfold VS.giveD
  split
  · split
    · rename_i hn
      have := inNode_true hn
      exact h.setOwn k.toNat n (by omega)
    · exact h
  · exact h
theorem VS.Ok.doesD {s : VS} {M : Int} (h : s.Ok M) (hM : 4611686018427387904 ≤ M) {o : OPV} (ho : o.Ok) : (s.doesD o).Ok (M + 1) := by
  unfold VS.doesD
  split
  · exact h.takeD hM ho.p
  · split
    · exact h.winD hM _ _ ho.least
    · split
      · exact (h.giveD _ _).up (by omega)
      · exact h.up (by omega)

/-- block b is a call -/
def OpAt (w : World) (b : Nat) (o : OPV) : Prop := w.heap[b]? = some (.cells o.cells.toArray 38 (0, 0))
theorem OpAt.kind {w : World} {b : Nat} {o : OPV} (h : OpAt w b o) : w.cell? ⟨b, 0, none⟩ = some (.int .i64 o.kind) := (cell_of_row _ _ _ _ _ _ h).trans rfl
theorem OpAt.slot {w : World} {b : Nat} {o : OPV} (h : OpAt w b o) : w.cell? ⟨b, 1, none⟩ = some (.int .i64 o.slot) := (cell_of_row _ _ _ _ _ _ h).trans rfl
theorem OpAt.node {w : World} {b : Nat} {o : OPV} (h : OpAt w b o) : w.cell? ⟨b, 2, none⟩ = some (.int .i64 o.node) := (cell_of_row _ _ _ _ _ _ h).trans rfl
theorem OpAt.least {w : World} {b : Nat} {o : OPV} (h : OpAt w b o) : w.cell? ⟨b, 3, none⟩ = some (.int .u64 o.least) := (cell_of_row _ _ _ _ _ _ h).trans rfl
theorem OpAt.pkt {w : World} {b : Nat} {o : OPV} (h : OpAt w b o) : w.rangeAt b 4 o.p.cells := fun j v hv => by
  rw [cell_of_row _ _ _ _ _ _ h, List.getElem?_toArray]
  unfold OPV.cells
  rw [List.getElem?_append_right (by simp)]
  have e : 4 + j - [Value.int .i64 o.kind, .int .i64 o.slot, .int .i64 o.node, .int .u64 o.least].length = j := by simp
  rw [e]
  exact hv

set_option maxRecDepth 100000 in
set_option maxHeartbeats 1600000 in
theorem does_any {w : World} {g : Nat} {s : VS} (h : ViewAt w g s) {M : Int} (hok : s.Ok M) (hM : 4611686018427387904 ≤ M) (hM2 : M ≤ 9223372036854775806) {o : OPV} (ho : o.Ok) :
    Calls Try.prog 20 #[.pointer (some ⟨g, 0, none⟩), o.val] w fun e w' => ∃ v, e = .returned (.tuple #[v, .int .i64 (VS.doesE o)]) ∧ RowAt w' w.heap.size v (s.doesL o) ∧ ViewAt w' g (s.doesD o) ∧ Only w w' g := by
  have hb0 : OpAt (w.alloc (.cells o.cells.toArray 38)) w.heap.size o := heap_alloc_new w _
  have hbel : Below w.heap.size w (w.alloc (.cells o.cells.toArray 38)) := (Below.refl _ _).alloc (Nat.le_refl _) _
  have hv1 := h.below hbel
  unfold OPV.val
  generalize hOC : o.cells.toArray = OC at *
  have d0 := hb0.kind
  have d1 := hb0.slot
  have d2 := hb0.node
  have d3 := hb0.least
  have HRg := Lib.hid hb0.pkt
  have HBel := Lib.hid hbel
  have HV := Lib.hid hv1
  have HS29 : Hid ((Try.prog.info? 29).map (·.size) = some o.p.cells.length) := by rw [PK.cells_len]; exact size29
  clear h hb0 hbel hv1 hOC
  have HO1 : Hid (Only w (w.alloc (.cells OC 38)) g) := below_only HBel.out g
  by_cases hk0 : o.kind = 0
  · have HD : Hid (s.doesD o = s.takeD o.p) := by unfold VS.doesD; rw [if_pos hk0]; exact rfl
    have HL : Hid (s.doesL o = s.takeL o.p) := by unfold VS.doesL; rw [if_pos hk0]; exact rfl
    have HE : Hid (VS.doesE o = 0) := by unfold VS.doesE; rw [if_pos hk0]; exact rfl
    have HC := Lib.hid (take_any HV.out hok hM hM2 ho.p)
    unfold PK.val at HC
    rw [hk0] at d0
    clear hok ho hk0
    go_enter Try.func20, Try.ntmps20
    go_wp2_with (with_reducible refine wpList_load_mid rfl 29 (.tmp 11) rfl w.heap.size 4 rfl o.p.cells _ HRg.out Try.underlying29 rfl HS29.out ?_)
    refine HC.out.mono ?_
    rintro e w' ⟨v, rfl, hrow, hv, ho⟩
    have HF1 := Lib.hid (hrow.mono (B' := w.heap.size) (by simp))
    have HF2 := Lib.hid hv
    have HF3 := Lib.hid (HO1.out.trans ho)
    clear hrow hv ho
    go_wp2
    go_ret2
    exact ⟨v, by rw [HE.out]; rfl, by rw [HL.out]; exact HF1.out, by rw [HD.out]; exact HF2.out, HF3.out⟩
  · have HL : Hid (s.doesL o = []) := by unfold VS.doesL; rw [if_neg hk0]; exact rfl
    have hk0b : (o.kind == 0) = false := by rw [beq_eq_false_iff_ne]; exact hk0
    by_cases hk1 : o.kind = 1
    · have HD : Hid (s.doesD o = s.winD o.slot o.least) := by unfold VS.doesD; rw [if_neg hk0, if_pos hk1]; exact rfl
      have HE : Hid (VS.doesE o = winE o.slot o.least) := by unfold VS.doesE; rw [if_neg hk0, if_pos hk1]; exact rfl
      have HC := Lib.hid (win_any HV.out hok hM hM2 o.slot o.least ho.least)
      rw [hk1] at d0
      clear hok ho hk0 hk1 hk0b
      go_enter Try.func20, Try.ntmps20
      go_wp2_with fail
      refine HC.out.mono ?_
      rintro e w' ⟨rfl, hv, ho⟩
      have HF2 := Lib.hid hv
      have HF3 := Lib.hid (HO1.out.trans ho)
      clear hv ho
      go_wp2
      go_ret2
      exact ⟨_, by rw [HE.out]; rfl, by rw [HL.out]; exact RowAt.nil _ _, by rw [HD.out]; exact HF2.out, HF3.out⟩
    · have hk1b : (o.kind == 1) = false := by rw [beq_eq_false_iff_ne]; exact hk1
      by_cases hk2 : o.kind = 2
      · have HD : Hid (s.doesD o = s.giveD o.slot o.node) := by unfold VS.doesD; rw [if_neg hk0, if_neg hk1, if_pos hk2]; exact rfl
        have HE : Hid (VS.doesE o = giveE o.slot o.node) := by unfold VS.doesE; rw [if_neg hk0, if_neg hk1, if_pos hk2]; exact rfl
        have HC := Lib.hid (give_any HV.out o.slot o.node)
        rw [hk2] at d0
        clear hok ho hk0 hk1 hk2 hk0b hk1b
        go_enter Try.func20, Try.ntmps20
        go_wp2_with fail
        refine HC.out.mono ?_
        rintro e w' ⟨rfl, hv, ho⟩
        have HF2 := Lib.hid hv
        have HF3 := Lib.hid (HO1.out.trans ho)
        clear hv ho
        go_wp2
        go_ret2
        exact ⟨_, by rw [HE.out]; rfl, by rw [HL.out]; exact RowAt.nil _ _, by rw [HD.out]; exact HF2.out, HF3.out⟩
      · have hk2b : (o.kind == 2) = false := by rw [beq_eq_false_iff_ne]; exact hk2
        have HD : Hid (s.doesD o = s) := by unfold VS.doesD; rw [if_neg hk0, if_neg hk1, if_neg hk2]; exact rfl
        have HE : Hid (VS.doesE o = 0) := by unfold VS.doesE; rw [if_neg hk0, if_neg hk1, if_neg hk2]; exact rfl
        clear hok ho hk0 hk1 hk2
        go_enter Try.func20, Try.ntmps20
        go_wp2
        go_ret2
        exact ⟨_, by rw [HE.out]; rfl, by rw [HL.out]; exact RowAt.nil _ _, by rw [HD.out]; exact HV.out, HO1.out⟩
end Go.Proofs.Ytlccbgjlinlioaa
