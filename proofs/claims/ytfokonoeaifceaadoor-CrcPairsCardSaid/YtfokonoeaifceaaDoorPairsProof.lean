/- CrcPairs: two unlike texts of two bytes have unlike sums. For every input within the form's reach that meets the row; the table crc.halves is tied to the program's text by the given card. -/
import Derived.Test.YtfokonoeaifceaaDoorOpen
import Derived.Test.YtfokonoeaifceaaDoorPairs
import Derived.Test.YtfokonoeaifceaaDoorCards
namespace Go.Proofs.YtfokonoeaifceaaDoor.Pairs
open Go.ChangeShapes Go.WideShapes Go.ChangeAt Go.RowKit CrcM

theorem contract (H : Type) (enc : TypeId × Value → H) (W : World) (base : Nat) (args : Array Value) (ds gs : List (DataW H)) (before : List MemPlace)
    (hval : ∀ (j : Nat) t v, Tryd.f10.params[j]? = some t → args[j]? = some v → Value.okWide Tryd.prog W .any base t v)
    (hW : DataW.Whole enc Tryd.prog Tryd.f10.params.toList Rows.crcPairsSpec.vars false W args.toList ds gs before)
    (hsz : (DataW.weightsEach Tryd.prog (Tryd.f10.params.toList ++ Rows.crcPairsSpec.plain.varTypes Tryd.prog) (ds ++ gs)).all (· ≤ reachBytes) = true) (hL : laidMetH Tryd.prog Rows.crcPairsRow.laid W) :
    Calls Tryd.prog 10 args W fun e W' => ∃ v, e = .returned v ∧ Rows.crcPairsSpec.post enc Tryd.prog Tryd.f10 false true false false W args v W' := by
  have hW' := hW
  obtain ⟨p, q, hA0, hV, rfl, hfz, hnd⟩ := hW
  have hA : DataW.TrodAll enc Tryd.prog W 0 (fun _ => true) true Tryd.f10.params.toList args.toList ds p := hA0
  rw [Tryd.params10] at hA hval hsz
  obtain ⟨v0, v1, d0, d1, p0, p1, rfl, rfl, rfl, h0, h1⟩ := trodAll_two hA
  obtain ⟨rfl, rfl⟩ := trodVars_none hV
  clear hA0
  obtain ⟨ht, hB⟩ := table hL
  obtain ⟨zs0, rfl, hl0, hw0, hd0⟩ := Kit.open_int_array Tryd.underlying33 Tryd.underlying5 cells5 cells33 (hval 0 33 v0 rfl rfl) h0
  obtain ⟨a0, b0, rfl⟩ : ∃ a b, zs0 = [a, b] := by match zs0, hl0 with | [a, b], _ => exact ⟨a, b, rfl⟩
  have y0 : isByte a0 := byte_of (hw0 a0 (by simp))
  have z0 : isByte b0 := byte_of (hw0 b0 (by simp))
  obtain ⟨zs1, rfl, hl1, hw1, hd1⟩ := Kit.open_int_array Tryd.underlying33 Tryd.underlying5 cells5 cells33 (hval 1 33 v1 rfl rfl) h1
  obtain ⟨a1, b1, rfl⟩ : ∃ a b, zs1 = [a, b] := by match zs1, hl1 with | [a, b], _ => exact ⟨a, b, rfl⟩
  have y1 : isByte a1 := byte_of (hw1 a1 (by simp))
  have z1 : isByte b1 := byte_of (hw1 b1 (by simp))
  refine (pairs_walk a0 b0 a1 b1 W y0 z0 y1 z1 ht hB).mono fun e W' ⟨he, hbel⟩ => ?_
  subst he
  exact ⟨_, rfl, Kit.law_post Tryd.laidOut rfl Tryd.underlying4 rfl (by rw [Tryd.params10]; intro t ht; simp at ht; first | (subst ht; exact ⟨by kernel_rfl, of_decide_eq_true (by kernel_rfl)⟩) | (rcases ht with rfl | rfl <;> exact ⟨by kernel_rfl, of_decide_eq_true (by kernel_rfl)⟩) | (rcases ht with rfl | rfl | rfl <;> exact ⟨by kernel_rfl, of_decide_eq_true (by kernel_rfl)⟩)) hW' rfl hbel⟩


theorem laid_met (os : Os) : laidMet Tryd.prog Rows.crcPairsRow.laid ((laidWorld os).forCall (fun _ _ => 0) ⟨#[], #[.agg #[.int .u8 0, .int .u8 0], .agg #[.int .u8 0, .int .u8 0]], []⟩).memory :=
  laidMet_of_run' 20 (by kernel_rfl) (by kernel_rfl)
theorem reads (os : Os) {H : Type} (enc : TypeId × Value → H) : ∃ places, DataW.whole enc Tryd.prog ((laidWorld os).forCall (fun _ _ => 0) ⟨#[], #[.agg #[.int .u8 0, .int .u8 0], .agg #[.int .u8 0, .int .u8 0]], []⟩).memory Tryd.f10.params.toList Rows.crcPairsSpec.vars false #[Value.agg #[.int .u8 0, .int .u8 0], .agg #[.int .u8 0, .int .u8 0]].toList 8 = some ([.agg [.lit (.int .u8 0), .lit (.int .u8 0)], .agg [.lit (.int .u8 0), .lit (.int .u8 0)]], [], places) :=
  ⟨[], by kernel_rfl⟩

set_option maxRecDepth 100000 in
theorem lifted (os : Os) (started : os.Started) (H : Type) (enc : TypeId × Value → H) (F : Stop.Interp) :
    ReturnsInHanded {} Tryd.checked os 10 .any ((OpenSpec.ofChange Rows.crcPairsSpec).preRow enc Tryd.prog Tryd.f10 Rows.crcPairsRow.domain false Rows.crcPairsRow.laid) (((OpenSpec.ofChange Rows.crcPairsSpec).at F).post enc Tryd.prog Tryd.f10 false true false false) := by
  obtain ⟨places, hx⟩ := reads os enc
  refine returnsInHanded_of_row (C := Tryd.checked) (s := OpenSpec.ofChange Rows.crcPairsSpec) Tryd.own started (by kernel_rfl) Tryd.func10
    (witness_row_at (enc := enc) (C := Tryd.checked) false (laidWorld os) #[.agg #[.int .u8 0, .int .u8 0], .agg #[.int .u8 0, .int .u8 0]] rfl (by kernel_rfl) (by kernel_rfl) (by kernel_rfl)
      (OpenSpec.preRow_of_cond 8 hx (by kernel_rfl) (fun k hk => by cases hk) (by kernel_rfl) (laid_met os))) ?_
  intro W base args ds gs before hval hW _ _ hsz hL _ _
  exact contract H enc W base args ds gs before hval hW hsz hL

theorem said : Rows.CrcPairsSaid :=
  OpenClaim.holds_of_cond 10 Tryd.f10 rfl rfl rfl rfl rfl rfl rfl ⟨rfl, rfl, rfl, rfl, rfl⟩ rfl rfl rfl rfl rfl (by kernel_rfl) Tryd.func10 (by kernel_rfl)
    (of_decide_eq_true (by kernel_rfl)) (by unfold Func.isWrapper; first | (rw [if_pos (by decide +kernel)]; kernel_rfl) | (rw [if_neg (by decide +kernel)]; exact ⟨rfl, rfl⟩))
    (fun os started H enc _ F => by rw [OpenClaim.pre_eq_preRow]; exact lifted os started H enc F)

theorem plain (f : FuncId) (fn : Func) (hf : Tryd.pinned.checked.prog.funcNamed "marshalyard/marshalyardlaw01.CrcPairs" = some f) (hfn : Tryd.pinned.checked.prog.funcs[f]? = some fn) :
    false = Tryd.pinned.checked.prog.looks [] ∧ ∀ (j : Nat) t, fn.params[j]? = some t → Tryd.pinned.checked.prog.wantsStandIn t = false := by
  obtain rfl : f = 10 := Option.some.inj ((show Tryd.prog.funcNamed "marshalyard/marshalyardlaw01.CrcPairs" = some 10 by kernel_rfl).symm.trans hf) |>.symm
  obtain rfl : fn = Tryd.f10 := (Option.some.inj (Tryd.func10.symm.trans hfn)).symm
  refine ⟨by kernel_rfl, fun j t ht => ?_⟩
  rw [Tryd.params10] at ht
  have hm := Array.mem_of_getElem? ht
  simp at hm
  subst hm
  all_goals first | exact (show Tryd.prog.wantsStandIn 33 = false by kernel_rfl) 

theorem card : Rows.CrcPairsCardSaid :=
  Claim7.holds_tied_plain_at .later [] _ _ _ _ said (fun _ h => by cases h) (by kernel_rfl) (fun _ h => by cases h) crcPairs_row_tie rfl ⟨rfl, rfl⟩ (by kernel_rfl) rfl plain (by kernel_rfl)
end Go.Proofs.YtfokonoeaifceaaDoor.Pairs
