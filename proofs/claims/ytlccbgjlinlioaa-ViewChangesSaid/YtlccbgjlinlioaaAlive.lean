/- alive: a view that loses a slot. -/
import Derived.Test.YtlccbgjlinlioaaPlain
namespace Go.Proofs.Ytlccbgjlinlioaa
open Go.RowKit

theorem newV_ok {n : Nat} {c : Nat → Nat} {e M : Int} (hn : n < 64) (he : 0 ≤ e) (hM : e ≤ M) : (newV n c e).Ok M := by
  refine ⟨hn, fun k => ?_, fun j => ?_, hM⟩
  · unfold newV
    simp only
    split
    · omega
    · split <;> omega
  · unfold newV
    simp only
    split <;> omega

/-- one word alone -/
def oneWord (x : Nat) (i : Nat) : Nat := if i = 0 then x else 0
theorem oneWord_lt (x : Nat) (hx : x < 18446744073709551616) (i : Nat) : oneWord x i < 18446744073709551616 := by unfold oneWord; split <;> omega
theorem oneWord_arr (x : Nat) (hx : x < 18446744073709551616) : zeroWords.setIfInBounds 0 (.int .u64 (x : Int)) = wordsArr (oneWord x) := by
  have h := zeroWords_bits.set 0 x (by decide) hx
  exact h.arr

/-- the view and the packet of alive -/
def aliveS : VS := newV 1 (oneWord 1023) 3
def aliveP : PK := ⟨1, 2, 0, 4, 5, oneWord 32⟩
theorem aliveP_ok : aliveP.Ok := ⟨by decide, by decide, oneWord_lt 32 (by decide)⟩
theorem alive_keeps : aliveS.refuses aliveP = false := by decide
theorem alive_who : aliveP.who = 2 := by decide
theorem alive_took : aliveS.took aliveP 2 = (aliveS.setCur 5).claim 2 4 (oneWord 32) := by
  unfold VS.took
  rw [if_pos (by decide)]
  rfl
theorem alive_has32 (k : Nat) : hasBit (oneWord 32) k = decide (k = 5) := by
  unfold hasBit oneWord
  by_cases h : k / 64 = 0
  · rw [if_pos h, show (32 : Nat) = 2 ^ 5 from rfl, Nat.testBit_two_pow]
    apply decide_eq_decide.2
    omega
  · rw [if_neg h, Nat.zero_testBit]
    symm
    exact decide_eq_false (by omega)
theorem alive_b5 : hasBit (oneWord 32) 5 = true := (alive_has32 5).trans (decide_eq_true rfl)
theorem alive_b6 : ¬ hasBit (oneWord 32) 6 = true := fun h => absurd (of_decide_eq_true ((alive_has32 6).symm.trans h)) (by omega)
theorem alive_own5 : aliveS.own 5 = 1 := by
  unfold aliveS newV
  simp only
  rw [if_pos (mem_slotsTo.2 ⟨by decide, by decide⟩)]
  rfl
theorem alive_own6 : aliveS.own 6 = 1 := by
  unfold aliveS newV
  simp only
  rw [if_pos (mem_slotsTo.2 ⟨by decide, by decide⟩)]
  rfl
theorem VS.setCur_own (s : VS) (v : Int) : (s.setCur v).own = s.own := rfl
theorem VS.setCur_ep (s : VS) (v : Int) : (s.setCur v).ep = s.ep := rfl
theorem alive_own5' : ((aliveS.setCur 5).claim 2 4 (oneWord 32)).own 5 = 2 := by
  rw [claim_own _ _ _ _ 5 (by omega), if_pos alive_b5]
  rw [VS.setCur_own, VS.setCur_ep, alive_own5]
  have h2 : aliveS.ep 1 = 3 := rfl
  simp [h2]
theorem alive_own6' : ((aliveS.setCur 5).claim 2 4 (oneWord 32)).own 6 = 1 := by
  rw [claim_own _ _ _ _ 6 (by omega), if_neg alive_b6]
  rw [VS.setCur_own, alive_own6]
  simp
theorem alive_self : ((aliveS.setCur 5).claim 2 4 (oneWord 32)).self = 1 := claim_self _ _ _ _
theorem alive_ep1 : ((aliveS.setCur 5).claim 2 4 (oneWord 32)).ep 1 = 3 := by rw [claim_ep]; rfl
theorem alive_raised : ((aliveS.setCur 5).claim 2 4 (oneWord 32)).raised aliveP 2 = (aliveS.setCur 5).claim 2 4 (oneWord 32) := by
  unfold VS.raised
  rw [alive_self, alive_ep1, if_neg (by decide)]
theorem alive_beaten : ((aliveS.setCur 5).claim 2 4 (oneWord 32)).beaten aliveP = -1 := by
  refine beatFold_none _ _ _ _ fun k hk hst => ?_
  obtain ⟨_, h2⟩ := mem_slotsTo.1 hk
  have h3 : hasBit (oneWord 32) k = true := h2
  rw [alive_has32 k] at h3
  have h5 : k = 5 := of_decide_eq_true h3
  subst h5
  exact hst.2.1 alive_own5'
theorem aliveD : aliveS.takeD aliveP = (aliveS.setCur 5).claim 2 4 (oneWord 32) := by
  unfold VS.takeD
  rw [if_neg (by rw [alive_keeps]; decide), if_neg (by decide), alive_who, alive_took, alive_raised]
theorem aliveL : aliveS.takeL aliveP = [((aliveS.setCur 5).claim 2 4 (oneWord 32)).tell 2] := by
  unfold VS.takeL
  rw [if_neg (by rw [alive_keeps]; decide), if_neg (by decide), alive_who, alive_took, alive_raised]
  unfold VS.pong VS.upd
  rw [if_pos (by decide), alive_beaten]
  rfl

theorem alive_cur : ((aliveS.setCur 5).claim 2 4 (oneWord 32)).cur = 5 := claim_cur _ _ _ _
theorem alive_owner5 : ((aliveS.setCur 5).claim 2 4 (oneWord 32)).owner 5 = 2 := by
  have h : inSlot 5 = true := decide_eq_true (by omega)
  unfold VS.owner
  rw [if_pos h, show (5 : Int).toNat = 5 from rfl, alive_own5']
theorem alive_owner6 : ((aliveS.setCur 5).claim 2 4 (oneWord 32)).owner 6 = 1 := by
  have h : inSlot 6 = true := decide_eq_true (by omega)
  unfold VS.owner
  rw [if_pos h, show (6 : Int).toNat = 6 from rfl, alive_own6']

theorem RowAt.one {w : World} {B : Nat} {v : Value} {p : PK} (h : RowAt w B v [p]) : ∃ b cap, v = .slice (some ⟨b, 0, none⟩) 1 cap ∧ w.cell? ⟨b, 0, none⟩ = some (.int .i64 p.kind) := by
  obtain ⟨sp, cap, rfl, hsp⟩ := own_form h
  obtain ⟨b, rfl⟩ := hsp (by simp)
  refine ⟨b, cap, rfl, ?_⟩
  have := World.ownsRow.cellAt h 0 (by simp)
  rw [this, pkRow_one]
  rfl

set_option maxRecDepth 100000 in
set_option maxHeartbeats 1600000 in
theorem alive_any (w : World) : Calls Try.prog 12 #[] w fun e w' => e = .returned (.bool true) ∧ Below w.heap.size w w' := by
  have hz := zero24
  have hne : ¬ zeroWords = #[] := by
    intro e
    have := zeroWords_bits.size
    rw [e] at this
    simp at this
  have h1 := oneWord_arr 1023 (by decide)
  have h2 := oneWord_arr 32 (by decide)
  have hsz := zeroWords_bits.size
  have c0 : zeroWords[0]? = some (.int .u64 0) := zeroWords_bits.word 0 (by decide)
  generalize zeroWords = T at *
  have h1' : T.setIfInBounds 0 (.int .u64 1023) = wordsArr (oneWord 1023) := h1
  have h2' : T.setIfInBounds 0 (.int .u64 32) = wordsArr (oneWord 32) := h2
  have H1 := Lib.hid h1'
  have H2 := Lib.hid h2'
  generalize hA1 : T.setIfInBounds 0 (.int .u64 1023) = A1 at *
  generalize hA2 : T.setIfInBounds 0 (.int .u64 32) = A2 at *
  have HD0 : Hid (((w.alloc (.cells A1 24)).alloc (.cells A2 24)).heap[w.heap.size]? = some (.cells A1 24 (0, 0))) := by
    show _ = _
    rw [Below.heap_alloc _ _ _ (by simp)]
    exact heap_alloc_new w _
  have HD1 : Hid (((w.alloc (.cells A1 24)).alloc (.cells A2 24)).heap[w.heap.size + 1]? = some (.cells A2 24 (0, 0))) := by
    show _ = _
    have := heap_alloc_new (w.alloc (.cells A1 24)) (.cells A2 24)
    simpa using this
  have HBel : Hid (Below w.heap.size w ((w.alloc (.cells A1 24)).alloc (.cells A2 24))) := ((Below.refl _ _).alloc (Nat.le_refl _) _).alloc (by simp) _
  have HS1 : Hid ((Try.prog.info? 24).map (·.size) = some A1.size) := by rw [H1.out, wordsArr_size]; exact size24b
  have HS2 : Hid ((Try.prog.info? 24).map (·.size) = some A2.size) := by rw [H2.out, wordsArr_size]; exact size24b
  have HSz : Hid (((w.alloc (.cells A1 24)).alloc (.cells A2 24)).heap.size = w.heap.size + 1 + 1) := by show _ = _; simp
  have HBd := Lib.hid (build29a 1 2 4 5 (oneWord 32))
  have HN := Lib.hid fun (u : World) => new_ok u (wordsArr_bits (oneWord_lt 1023 (by decide))) 1 3 (by decide) (by decide) (by decide)
  have hok : aliveS.Ok 4611686018427387904 := newV_ok (by decide) (by decide) (by decide)
  have HT := Lib.hid fun (u : World) (g : Nat) (hg : ViewAt u g aliveS) => take_any hg hok (by decide) (by decide) aliveP_ok
  have HOk := Lib.hid (hok.takeD (by decide) aliveP_ok)
  have HL := Lib.hid aliveL
  have HDD := Lib.hid aliveD
  rw [← H2.out] at HBd
  rw [← H1.out] at HN
  clear h1 h2 h1' h2' hok
  go_enter Try.func12, Try.ntmps12
  go_wp2_with (with_reducible refine wpList_load_row rfl 24 (.tmp 1) rfl w.heap.size rfl 24 A1 (0, 0) _ HD0.out Try.underlying24 rfl HS1.out ?_)
  refine (HN.out _).mono ?_
  rintro e wc ⟨rfl, hbN, hvN⟩
  rw [HSz.out] at hbN hvN ⊢
  have HV1 : Hid (ViewAt wc (w.heap.size + 1 + 1 + 1 + 1) aliveS) := hvN
  have HB1 := Lib.hid (HBel.out.trans (hbN.mono (by omega)))
  have HD1c : Hid (wc.heap[w.heap.size + 1]? = some (.cells A2 24 (0, 0))) := (hbN.block _ (by omega)).trans HD1.out
  clear hbN hvN
  go_wp2_with (first
    | (with_reducible refine wpList_load_row rfl 24 (.tmp 2) rfl (w.heap.size + 1) rfl 24 A2 (0, 0) _ HD1c.out Try.underlying24 rfl HS2.out ?_)
    | (with_reducible refine wpList_build_some rfl 29 #[(0, .const (.int .i64 1)), (1, .const (.int .i64 2)), (3, .const (.int .u64 4)), (4, .const (.int .u64 5)), (5, .tmp 20)] rfl [(0, .int .i64 1), (1, .int .i64 2), (3, .int .u64 4), (4, .int .u64 5), (5, .agg A2)] ?b1 _ HBd.out ?_))
  refine (HT.out _ _ HV1.out).mono ?_
  rintro e wd ⟨v, rfl, hrow, hvd, hod⟩
  have hok := HOk.out
  have hcu := alive_cur
  have ho5 := alive_owner5
  have ho6 := alive_owner6
  rw [HL.out] at hrow
  rw [HDD.out] at hvd hok
  have HB2 : Hid (Below w.heap.size w wd) := hod.new HB1.out (by omega) HB1.out.size
  obtain ⟨b, cap, rfl, hc⟩ := hrow.one
  have hc2 : wd.cell? ⟨b, 0, none⟩ = some (.int .i64 2) := hc
  clear hrow hod hc HL HDD HOk HT HN HBd HV1 HB1
  generalize (aliveS.setCur 5).claim 2 4 (oneWord 32) = x at *
  have HO5 := Lib.hid (owner_any hvd hok 5)
  have HO6 := Lib.hid (owner_any hvd hok 6)
  have HCu := Lib.hid (current_any hvd)
  rw [ho5] at HO5
  rw [ho6] at HO6
  rw [hcu] at HCu
  clear ho5 ho6 hcu hvd hok
  go_wp2_with fail
  refine HO5.out.mono ?_
  rintro e w' ⟨rfl, rfl⟩
  go_wp2_with fail
  refine HO6.out.mono ?_
  rintro e w' ⟨rfl, rfl⟩
  go_wp2_with fail
  refine HCu.out.mono ?_
  rintro e w' ⟨rfl, rfl⟩
  go_wp2
  go_ret
  exact ⟨rfl, HB2.out⟩
end Go.Proofs.Ytlccbgjlinlioaa
