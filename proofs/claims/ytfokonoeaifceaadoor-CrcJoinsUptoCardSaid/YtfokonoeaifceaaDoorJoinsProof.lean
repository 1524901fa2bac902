/- CrcJoins: the sum of two texts, one behind the other, is that of the first, gone on with the second; said where what comes in is of bulk at most 1048576. For every input within the form's reach that meets the row; the table crc.halves is tied to the program's text by the given card. -/
import Derived.Test.YtfokonoeaifceaaDoorOpen
import Derived.Test.YtfokonoeaifceaaDoorApp
import Derived.Test.YtfokonoeaifceaaDoorCards
namespace Go.Proofs.YtfokonoeaifceaaDoor.Joins
open Go.ChangeShapes Go.WideShapes Go.ChangeAt Go.RowKit CrcM

/-- WHAT THE BOUND GIVES. -/
theorem length_le {H : Type} (l : List (DataW H)) : l.length ≤ Rows.uptoBulkAll l := by
  induction l with
  | nil => simp [Rows.uptoBulkAll]
  | cons x r ih =>
    have h1 : 1 ≤ Rows.uptoBulk x := by
      cases x with
      | lit l => cases l <;> simp [Rows.uptoBulk]
      | nil => simp [Rows.uptoBulk]
      | ptr d => simp [Rows.uptoBulk]
      | slice elems spare => simp [Rows.uptoBulk]
      | agg parts => simp [Rows.uptoBulk]
      | iface t d => simp [Rows.uptoBulk]
      | map entries => simp [Rows.uptoBulk]
      | held h => simp [Rows.uptoBulk]
    simp only [Rows.uptoBulkAll, List.length_cons]
    omega
theorem one_small {H : Type} {d : DataW H} {l : List Int} (h : d = .nil ∧ l = [] ∨ ∃ spare, d = .slice (lits .u8 l) spare) : l.length ≤ Rows.uptoBulk d := by
  rcases h with ⟨_, rfl⟩ | ⟨spare, rfl⟩
  · simp
  · have := length_le (lits (H := H) .u8 l)
    simp only [lits, List.length_map] at this
    simp only [Rows.uptoBulk, lits]
    omega
theorem small {H : Type} {d e : DataW H} {l m : List Int} (h : d = .nil ∧ l = [] ∨ ∃ spare, d = .slice (lits .u8 l) spare) (g : e = .nil ∧ m = [] ∨ ∃ spare, e = .slice (lits .u8 m) spare)
    (hk : Rows.uptoSmall H ([d, e] ++ []) = true) : l.length + m.length ≤ 1048576 := by
  have h1 := one_small h
  have h2 := one_small g
  have h3 : Rows.uptoBulkAll [d, e] ≤ 1048576 := of_decide_eq_true hk
  simp only [Rows.uptoBulkAll] at h3
  omega

theorem contract (H : Type) (enc : TypeId × Value → H) (W : World) (base : Nat) (args : Array Value) (ds gs : List (DataW H)) (before : List MemPlace)
    (hval : ∀ (j : Nat) t v, Tryd.f5.params[j]? = some t → args[j]? = some v → Value.okWide Tryd.prog W .any base t v)
    (hW : DataW.Whole enc Tryd.prog Tryd.f5.params.toList Rows.crcJoinsSpec.vars false W args.toList ds gs before)
    (hsz : (DataW.weightsEach Tryd.prog (Tryd.f5.params.toList ++ Rows.crcJoinsSpec.plain.varTypes Tryd.prog) (ds ++ gs)).all (· ≤ reachBytes) = true) (hL : laidMetH Tryd.prog Rows.crcJoinsRow.laid W) (hk : Rows.uptoSmall H (ds ++ gs) = true) :
    Calls Tryd.prog 5 args W fun e W' => ∃ v, e = .returned v ∧ Rows.crcJoinsSpec.post enc Tryd.prog Tryd.f5 false true false false W args v W' := by
  have hW' := hW
  obtain ⟨p, q, hA0, hV, rfl, hfz, hnd⟩ := hW
  have hA : DataW.TrodAll enc Tryd.prog W 0 (fun _ => true) true Tryd.f5.params.toList args.toList ds p := hA0
  rw [Tryd.params5] at hA hval hsz
  obtain ⟨v0, v1, d0, d1, p0, p1, rfl, rfl, rfl, h0, h1⟩ := trodAll_two hA
  obtain ⟨rfl, rfl⟩ := trodVars_none hV
  clear hA0
  obtain ⟨ht, hB⟩ := table hL
  obtain ⟨ao0, cap0, l0, rfl, hin0, hlen0, hdat0⟩ := open_bytes (hval 0 22 v0 rfl rfl) h0 (fun x hx => by simpa using hW'.lt x (by simp [hx])) (fun elems spare he => by
    subst he
    have := sized_slice hsz (j := 0) (t := 22) (e := 5) rfl rfl Tryd.underlying22
    rw [bytes5] at this
    simpa using this)
  obtain ⟨ao1, cap1, l1, rfl, hin1, hlen1, hdat1⟩ := open_bytes (hval 1 22 v1 rfl rfl) h1 (fun x hx => by simpa using hW'.lt x (by simp [hx])) (fun elems spare he => by
    subst he
    have := sized_slice hsz (j := 1) (t := 22) (e := 5) rfl rfl Tryd.underlying22
    rw [bytes5] at this
    simpa using this)
  have hsmall := small hdat0 hdat1 hk
  refine (joins_walk _ _ l0 l1 W hin0.all hin1.all (by omega) hin0.bytes hin1.bytes ht hB).mono fun e W' ⟨he, hbel⟩ => ?_
  subst he
  exact ⟨_, rfl, Kit.law_post Tryd.laidOut rfl Tryd.underlying4 rfl (by rw [Tryd.params5]; intro t ht; simp at ht; first | (subst ht; exact ⟨by kernel_rfl, of_decide_eq_true (by kernel_rfl)⟩) | (rcases ht with rfl | rfl <;> exact ⟨by kernel_rfl, of_decide_eq_true (by kernel_rfl)⟩) | (rcases ht with rfl | rfl | rfl <;> exact ⟨by kernel_rfl, of_decide_eq_true (by kernel_rfl)⟩)) hW' rfl hbel⟩


theorem laid_met (os : Os) : laidMet Tryd.prog Rows.crcJoinsRow.laid ((laidWorld os).forCall (fun _ _ => 0) ⟨#[], #[.slice none 0 0, .slice none 0 0], []⟩).memory :=
  laidMet_of_run' 20 (by kernel_rfl) (by kernel_rfl)
theorem reads (os : Os) {H : Type} (enc : TypeId × Value → H) : ∃ places, DataW.whole enc Tryd.prog ((laidWorld os).forCall (fun _ _ => 0) ⟨#[], #[.slice none 0 0, .slice none 0 0], []⟩).memory Tryd.f5.params.toList Rows.crcJoinsSpec.vars false #[Value.slice none 0 0, .slice none 0 0].toList 8 = some ([.nil, .nil], [], places) :=
  ⟨[], by kernel_rfl⟩

set_option maxRecDepth 100000 in
theorem lifted (os : Os) (started : os.Started) (H : Type) (enc : TypeId × Value → H) (F : Stop.Interp) :
    ReturnsInHanded {} Tryd.checked os 5 .any ((Rows.OpenSpec.upto Rows.crcJoinsSpec).preRow enc Tryd.prog Tryd.f5 Rows.crcJoinsUptoRow.domain false Rows.crcJoinsUptoRow.laid) (((Rows.OpenSpec.upto Rows.crcJoinsSpec).at F).post enc Tryd.prog Tryd.f5 false true false false) := by
  obtain ⟨places, hx⟩ := reads os enc
  refine returnsInHanded_of_row (C := Tryd.checked) (s := Rows.OpenSpec.upto Rows.crcJoinsSpec) Tryd.own started (by kernel_rfl) Tryd.func5
    (witness_row_at (enc := enc) (C := Tryd.checked) false (laidWorld os) #[.slice none 0 0, .slice none 0 0] rfl (by kernel_rfl) (by kernel_rfl) (by kernel_rfl)
      (OpenSpec.preRow_of_cond 8 hx (by kernel_rfl) (fun k hk => by cases hk; kernel_rfl) (by kernel_rfl) (laid_met os))) ?_
  intro W base args ds gs before hval hW _ hcond hsz hL _ _
  exact contract H enc W base args ds gs before hval hW hsz hL (hcond _ rfl)

theorem said : Rows.CrcJoinsUptoSaid :=
  OpenClaim.holds_of_cond 5 Tryd.f5 rfl rfl rfl rfl rfl rfl rfl ⟨rfl, rfl, rfl, rfl, rfl⟩ rfl rfl rfl rfl rfl (by kernel_rfl) Tryd.func5 (by kernel_rfl)
    (of_decide_eq_true (by kernel_rfl)) (by unfold Func.isWrapper; first | (rw [if_pos (by decide +kernel)]; kernel_rfl) | (rw [if_neg (by decide +kernel)]; exact ⟨rfl, rfl⟩))
    (fun os started H enc _ F => by rw [OpenClaim.pre_eq_preRow]; exact lifted os started H enc F)

theorem plain (f : FuncId) (fn : Func) (hf : Tryd.pinned.checked.prog.funcNamed "marshalyard/marshalyardlaw01.CrcJoins" = some f) (hfn : Tryd.pinned.checked.prog.funcs[f]? = some fn) :
    false = Tryd.pinned.checked.prog.looks [] ∧ ∀ (j : Nat) t, fn.params[j]? = some t → Tryd.pinned.checked.prog.wantsStandIn t = false := by
  obtain rfl : f = 5 := Option.some.inj ((show Tryd.prog.funcNamed "marshalyard/marshalyardlaw01.CrcJoins" = some 5 by kernel_rfl).symm.trans hf) |>.symm
  obtain rfl : fn = Tryd.f5 := (Option.some.inj (Tryd.func5.symm.trans hfn)).symm
  refine ⟨by kernel_rfl, fun j t ht => ?_⟩
  rw [Tryd.params5] at ht
  have hm := Array.mem_of_getElem? ht
  simp at hm
  subst hm
  all_goals first | exact (show Tryd.prog.wantsStandIn 22 = false by kernel_rfl) 

theorem card : Rows.CrcJoinsUptoCardSaid :=
  Claim7.holds_tied_plain_at .later [] _ _ _ _ said (fun _ h => by cases h) (by kernel_rfl) (fun _ h => by cases h) crcJoinsUpto_row_tie rfl ⟨rfl, rfl⟩ (by kernel_rfl) rfl plain (by kernel_rfl)
end Go.Proofs.YtfokonoeaifceaaDoor.Joins
