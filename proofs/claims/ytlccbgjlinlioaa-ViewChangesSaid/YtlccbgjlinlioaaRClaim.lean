/- The document's claim. -/
import Derived.Test.YtlccbgjlinlioaaOwned
namespace Go.Proofs.Ytlccbgjlinlioaa
open Go.RowKit

/-- the slots of word i that others keep, of the nodes below m -/
def NS.keptTo (M : NS) (n : Nat) (e : Int) (i : Nat) : Nat → Nat
  | 0 => 0
  | m + 1 => if m ≠ n ∧ e ≤ M.ep m then M.keptTo n e i m ||| M.wd m i else M.keptTo n e i m
/-- the slots of word i that are won -/
def NS.won (M : NS) (n : Nat) (p : PK) (i : Nat) : Nat := without (p.c i) (M.keptTo n p.ep i 64)
theorem NS.keptTo_lt {M : NS} (h : M.Lt) (n : Nat) (e : Int) (i m : Nat) : M.keptTo n e i m < 18446744073709551616 := by
  induction m with
  | zero => unfold NS.keptTo; omega
  | succ m ih =>
    unfold NS.keptTo
    split
    · exact Nat.or_lt_two_pow (n := 64) ih (h m i)
    · exact ih
theorem NS.won_lt {M : NS} (n : Nat) {p : PK} (hp : p.Ok) (i : Nat) : M.won n p i < 18446744073709551616 := without_lt _ _ (hp.lt i)

/-- the words below m done; of word m the nodes below o -/
def NS.claimTo (M : NS) (n : Nat) (p : PK) (m o : Nat) : NS :=
  { M with wd := fun j i => if i < m then (if j = n then M.won n p i else without (M.wd j i) (M.won n p i)) else if i = m ∧ j < o then without (M.wd j i) (M.won n p i) else M.wd j i }
theorem NS.claimTo_zero (M : NS) (n : Nat) (p : PK) : M.claimTo n p 0 0 = M := by
  unfold NS.claimTo
  simp
theorem NS.claimTo_fresh (M : NS) (n : Nat) (p : PK) (m j : Nat) : (M.claimTo n p m 0).wd j m = M.wd j m := by
  unfold NS.claimTo
  simp
theorem NS.claimTo_next (M : NS) (n : Nat) (p : PK) (m o : Nat) : (M.claimTo n p m o).wd o m = M.wd o m := by
  unfold NS.claimTo
  simp
theorem NS.claimTo_step (M : NS) (n : Nat) (p : PK) (m o : Nat) : (M.claimTo n p m o).setW o m (without (M.wd o m) (M.won n p m)) = M.claimTo n p m (o + 1) := by
  unfold NS.claimTo NS.setW
  congr 1
  funext j i
  by_cases hi : i = m
  · subst hi
    by_cases hj : j = o
    · subst hj; simp
    · by_cases hl : j < o
      · simp [hj, hl, Nat.lt_succ_of_lt hl]
      · have hl2 : ¬ j < o + 1 := by omega
        simp [hj, hl, hl2]
  · simp [hi]
theorem NS.claimTo_row (M : NS) (n : Nat) (p : PK) (m : Nat) (hn : n < 64) : nodesList ((M.claimTo n p m 64).setW n m (M.won n p m)) = nodesList (M.claimTo n p (m + 1) 0) := by
  refine NS.ext (fun _ _ => rfl) fun j i hj hi => ?_
  unfold NS.claimTo NS.setW
  simp only
  by_cases him : i = m
  · subst him
    by_cases hjn : j = n
    · subst hjn; simp
    · simp [hjn, hj]
  · by_cases hl : i < m
    · simp [him, hl, Nat.lt_succ_of_lt hl]
    · have hl2 : ¬ i < m + 1 := by omega
      simp [him, hl, hl2]

/-- where claim's walk stands -/
structure ClS (w : World) (B g cap me : Nat) (cur : Int) (p : PK) (N : NS) (u : World) : Prop where
  box : Box u w.heap.size (.int .i64 (me : Int)) (.slice (some ⟨g, 0, none⟩) 64 cap) (.int .u64 cur)
  pkt : PktAt u (w.heap.size + 1) p
  res : Box u (w.heap.size + 1 + 1) (.int .i64 0) (.slice none 0 0) (.int .u64 0)
  rn : RN u B g cap N
  only : Only w u g
theorem ClS.drew {w : World} {B g cap me : Nat} {cur : Int} {p : PK} {N : NS} {u : World} (h : ClS w B g cap me cur p N u) : ClS w B g cap me cur p N u.drew := ⟨h.box.drew, h.pkt, h.res.drew, h.rn.drew, h.only.drew⟩
theorem ClS.below {w : World} {B g cap me : Nat} {cur : Int} {p : PK} {N : NS} {u u' : World} (h : ClS w B g cap me cur p N u) (hb : Below u.heap.size u u') : ClS w B g cap me cur p N u' :=
  ⟨h.box.below hb h.box.lt, (hb.block _ (by have := h.res.lt; omega)).trans h.pkt, h.res.below hb h.res.lt, h.rn.below hb, h.only.up hb⟩
theorem ClS.setW {w : World} {B g cap me : Nat} {cur : Int} {p : PK} {N : NS} {u : World} (hg : g < w.heap.size) (h : ClS w B g cap me cur p N u) (n i x : Nat) (hn : n < 64) (hi : i < 256) : ClS w B g cap me cur p (N.setW n i x) (u.setCell ⟨g, n * 257 + 1 + i, none⟩ (.int .u64 (x : Int))) := by
  have ho : Only u (u.setCell ⟨g, n * 257 + 1 + i, none⟩ (.int .u64 (x : Int))) g := Only.setCell _ _ _ _
  exact ⟨h.box.only ho (by omega), (ho.block _ (by have := h.res.lt; omega) (by simp; omega)).trans h.pkt, h.res.only ho (by omega), h.rn.setW n i x hn hi, h.only.trans ho⟩
theorem ClS.setEp {w : World} {B g cap me : Nat} {cur : Int} {p : PK} {N : NS} {u : World} (hg : g < w.heap.size) (h : ClS w B g cap me cur p N u) (n : Nat) (hn : n < 64) (e : Int) : ClS w B g cap me cur p (N.setEp n e) (u.setCell ⟨g, n * 257, none⟩ (.int .u64 e)) := by
  have ho : Only u (u.setCell ⟨g, n * 257, none⟩ (.int .u64 e)) g := Only.setCell _ _ _ _
  exact ⟨h.box.only ho (by omega), (ho.block _ (by have := h.res.lt; omega) (by simp; omega)).trans h.pkt, h.res.only ho (by omega), h.rn.setEp n hn e, h.only.trans ho⟩
theorem ClS.ofEq {w : World} {B g cap me : Nat} {cur : Int} {p : PK} {N M : NS} {u : World} (h : ClS w B g cap me cur p N u) (e : nodesList N = nodesList M) : ClS w B g cap me cur p M u :=
  ⟨h.box, h.pkt, h.res, by have := h.rn; unfold RN at *; rw [← e]; exact this, h.only⟩

set_option maxRecDepth 100000 in
set_option maxHeartbeats 1600000 in
theorem rclaim_any {w : World} {B g cap self : Nat} {cur : Int} {N : NS} (h : RN w B g cap N) (hL : N.Lt) (n : Nat) (hn : n < 64) {p : PK} (hp : p.Ok) :
    Calls Try.prog 51 #[refVal self g cap cur, .int .i64 n, p.val] w fun e w' => e = .returned (refVal self g cap cur) ∧ RN w' B g cap ((N.setEp n p.ep).claimTo n p 256 0) ∧ Only w w' g := by
  have hgl := h.lt.2
  have hb2 : Below w.heap.size w (((w.alloc (.cells #[.int .i64 (self : Int), .slice (some ⟨g, 0, none⟩) 64 cap, .int .u64 cur] 33)).alloc (.cells p.cells.toArray 29)).alloc (.cells #[.int .i64 0, .slice none 0 0, .int .u64 0] 33)) := below3 _ _ _ _
  have hcl : ClS w B g cap self cur p N (((w.alloc (.cells #[.int .i64 (self : Int), .slice (some ⟨g, 0, none⟩) 64 cap, .int .u64 cur] 33)).alloc (.cells p.cells.toArray 29)).alloc (.cells #[.int .i64 0, .slice none 0 0, .int .u64 0] 33)) := by
    refine ⟨box_a _ _ _ _ _ _, ?_, ?_, h.belowN hb2 hgl, below_only hb2 g⟩
    · unfold PktAt
      rw [Below.heap_alloc _ _ _ (by simp)]
      have := heap_alloc_new (w.alloc (.cells #[.int .i64 (self : Int), .slice (some ⟨g, 0, none⟩) 64 cap, .int .u64 cur] 33)) (.cells p.cells.toArray 29)
      simpa using this
    · refine ⟨?_⟩
      have := heap_alloc_new ((w.alloc (.cells #[.int .i64 (self : Int), .slice (some ⟨g, 0, none⟩) 64 cap, .int .u64 cur] 33)).alloc (.cells p.cells.toArray 29)) (.cells #[.int .i64 0, .slice none 0 0, .int .u64 0] 33)
      simpa using this
  unfold refVal PK.val
  generalize p.cells.toArray = PC at *
  generalize hw2 : ((w.alloc (.cells #[.int .i64 (self : Int), .slice (some ⟨g, 0, none⟩) 64 cap, .int .u64 cur] 33)).alloc (.cells PC 29)).alloc (.cells #[.int .i64 0, .slice none 0 0, .int .u64 0] 33) = w2 at *
  have HW2 := Lib.hid hw2
  have hni : (0 : Int) ≤ (n : Int) ∧ (n : Int) < 64 := by omega
  have a1 := hcl.box.cell1
  have a3 := hcl.pkt.ep
  have e0 := hcl.rn.ep n hn
  have z0 := hcl.rn.free (n * 257)
  have HCl1 := Lib.hid (hcl.setEp hgl n hn p.ep)
  have hLM : (N.setEp n p.ep).Lt := hL
  generalize hM : N.setEp n p.ep = M at *
  have HP := Lib.hid hp
  have HLM := Lib.hid hLM
  clear h hb2 hcl hw2 hM hLM
  go_enter Try.func51, Try.ntmps51
  go_upto_region 1 with fail
  rw [HW2.out]
  go_wp2_with fail
  clear a1 a3 e0 z0
  go_loopw [7] (fun c wr => ∃ m : Nat, m ≤ 256 ∧ c = .int .i64 m ∧ ClS w B g cap self cur p (M.claimTo n p m 0) wr) (fun c _ => 256 - (intOf c).toNat)
  case atStart => exact ⟨0, Nat.zero_le _, rfl, by rw [NS.claimTo_zero]; exact HCl1.out⟩
  case round =>
    obtain ⟨m, hm, rfl, hcl⟩ := hrel
    have HCl := Lib.hid hcl
    by_cases hlt : m < 256
    · have hmi : (0 : Int) ≤ (m : Int) ∧ (m : Int) < 256 := by omega
      clear hcl
      go_wp2_with fail
      generalize wr = wo at *
      go_loopw [8, 9] (fun k8 c wx => ∃ o : Nat, o ≤ 64 ∧ c = .int .i64 o ∧ k8 = .int .u64 (M.keptTo n p.ep m o : Int) ∧ ClS w B g cap self cur p (M.claimTo n p m 0) wx) (fun _ c _ => 64 - (intOf c).toNat)
      case atStart => exact ⟨0, Nat.zero_le _, rfl, rfl, HCl.out⟩
      case round =>
        obtain ⟨o, ho, rfl, rfl, hco⟩ := hrel
        have HCo := Lib.hid hco
        have a1 := hco.box.cell1
        by_cases hol : o < 64
        · have hoi : (0 : Int) ≤ (o : Int) ∧ (o : Int) < 64 := by omega
          have HKs : Hid (M.keptTo n p.ep m (o + 1) = if o ≠ n ∧ p.ep ≤ M.ep o then M.keptTo n p.ep m o ||| M.wd o m else M.keptTo n p.ep m o) := rfl
          by_cases hon : o = n
          · have hob : ((o : Int) != (n : Int)) = false := by simp [hon]
            have hE := HKs.out
            rw [if_neg (fun hh => hh.1 hon)] at hE
            have HE := Lib.hid hE
            clear hco hE
            go_wp2_with fail
            go_quiet (fail)
            go_wp2
            go_roundw
            case rel => exact ⟨o + 1, by omega, by go_num, by rw [HE.out], HCo.out.below (below_drewN (Below.refl _ _) _)⟩
            case measure => simp [intOf]; omega
          · have hob : ((o : Int) != (n : Int)) = true := by simp; omega
            have e0 : wr.cell? ⟨g, o * 257, none⟩ = some (.int .u64 (M.ep o)) := hco.rn.ep o hol
            have a3 := hco.pkt.ep
            have e1 : wr.cell? ⟨g, o * 257 + 1 + m, none⟩ = some (.int .u64 (M.wd o m : Int)) := by
              have := hco.rn.word o m hol (by omega)
              rw [NS.claimTo_fresh] at this
              exact this
            by_cases hge : p.ep ≤ M.ep o
            · have hE := HKs.out
              rw [if_pos ⟨hon, hge⟩] at hE
              have HE := Lib.hid hE
              have hor := u64_or_nat (M.keptTo n p.ep m o) (M.wd o m) (NS.keptTo_lt HLM.out _ _ _ _) (HLM.out o m)
              generalize M.ep o = eo at *
              generalize M.keptTo n p.ep m o = ko at *
              generalize M.wd o m = x at *
              clear hco hE HKs
              go_wp2_with fail
              go_quiet (fail)
              go_wp2
              go_roundw
              case rel => exact ⟨o + 1, by omega, by go_num, by rw [HE.out], HCo.out.below (below_drewN (Below.refl _ _) _)⟩
              case measure => simp [intOf]; omega
            · have hE := HKs.out
              rw [if_neg (fun hh => hge hh.2)] at hE
              have HE := Lib.hid hE
              generalize M.ep o = eo at *
              have hged : decide (p.ep ≤ eo) = false := decide_eq_false hge
              clear hco hE
              go_wp2_with fail
              go_quiet (fail)
              go_wp2
              go_roundw
              case rel => exact ⟨o + 1, by omega, by go_num, by rw [HE.out], HCo.out.below (below_drewN (Below.refl _ _) _)⟩
              case measure => simp [intOf]; omega
        · have ho2 : o = 64 := by omega
          subst ho2
          rw [show ((64 : Nat) : Int) = 64 from rfl]
          have a4 := hco.pkt.word m (by omega)
          have hWl := NS.won_lt (M := M) n HP.out m
          have hwon : bits .andNot .u64 (p.c m : Int) (M.keptTo n p.ep m 64 : Int) = ((M.won n p m : Nat) : Int) := without_word _ _ (HP.out.lt m) (NS.keptTo_lt HLM.out _ _ _ _)
          generalize hk64 : M.keptTo n p.ep m 64 = k64 at *
          obtain ⟨W, hW⟩ : ∃ W, W = M.won n p m := ⟨_, rfl⟩
          rw [← hW] at hwon hWl
          have HW := Lib.hid hW
          generalize p.c m = pc at *
          clear hco hW hk64 HCl
          go_wp2_with fail
          generalize wr = wq at *
          go_loopw [11] (fun c wx => ∃ o : Nat, o ≤ 64 ∧ c = .int .i64 o ∧ ClS w B g cap self cur p (M.claimTo n p m o) wx) (fun c _ => 64 - (intOf c).toNat)
          case atStart => exact ⟨0, Nat.zero_le _, rfl, HCo.out⟩
          case round =>
            obtain ⟨o, ho, rfl, hci⟩ := hrel
            have HCi := Lib.hid hci
            have a1 := hci.box.cell1
            by_cases hol : o < 64
            · have hoi : (0 : Int) ≤ (o : Int) ∧ (o : Int) < 64 := by omega
              have hcd := hci.drew
              have b1 := hcd.box.cell1
              have e1 : wr.drew.cell? ⟨g, o * 257 + 1 + m, none⟩ = some (.int .u64 (M.wd o m : Int)) := by
                have := hcd.rn.word o m hol (by omega)
                rw [NS.claimTo_next] at this
                exact this
              have z1 : wr.drew.frozen? ⟨g, o * 257 + 1 + m, none⟩ = false := hcd.rn.free _
              have HSet := Lib.hid (hcd.setW hgl o m (without (M.wd o m) W) hol (by omega))
              have HStep := Lib.hid (M.claimTo_step n p m o)
              rw [← HW.out] at HStep
              have hxl := HLM.out o m
              generalize M.wd o m = x at *
              have hwo := without_word x W hxl hWl
              clear hci hcd
              go_wp2_with fail
              go_still_tail 17, (by kernel_rfl)
              change wpList _ _ _ _ _ wr.drew
              generalize wr.drew = wd at *
              go_wp2
              go_roundw
              case rel => exact ⟨o + 1, by omega, by go_num, by rw [← HStep.out]; exact HSet.out⟩
              case measure => simp [intOf]; omega
            · have ho2 : o = 64 := by omega
              subst ho2
              have e1 : wr.cell? ⟨g, n * 257 + 1 + m, none⟩ = some (.int .u64 ((M.claimTo n p m 64).wd n m : Int)) := hci.rn.word n m hn (by omega)
              have z1 : wr.frozen? ⟨g, n * 257 + 1 + m, none⟩ = false := hci.rn.free _
              have HSet := Lib.hid (hci.setW hgl n m W hn (by omega))
              have HRow := Lib.hid (M.claimTo_row n p m hn)
              rw [← HW.out] at HRow
              generalize (M.claimTo n p m 64).wd n m = y at *
              clear hci
              go_wp2
              go_roundw
              case rel => exact ⟨m + 1, by omega, by go_num, HSet.out.ofEq HRow.out⟩
              case measure => simp [intOf]; omega
    · have hm2 : m = 256 := by omega
      subst hm2
      have a0 := hcl.box.cell0
      have a1 := hcl.box.cell1
      have a2 := hcl.box.cell2
      have b0 := hcl.res.cell0
      have b1 := hcl.res.cell1
      have b2 := hcl.res.cell2
      have zb0 := hcl.res.free 0
      have zb1 := hcl.res.free 1
      have zb2 := hcl.res.free 2
      clear hcl
      go_wp2
      refine bodyPost_ret (results_box1 (p := 6) rfl (HCl.out.res.set _ _ _) _ rfl) rfl ?_
      exact ⟨rfl, HCl.out.rn.only (Box.onlySet _ _ _ _ _) (by omega), HCl.out.only.fresh (Box.onlySet _ _ _ _ _) (by omega)⟩
end Go.Proofs.Ytlccbgjlinlioaa
