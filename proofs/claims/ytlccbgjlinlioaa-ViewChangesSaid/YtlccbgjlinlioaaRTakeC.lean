/- The document's Take: the others that are taken in. -/
import Derived.Test.YtlccbgjlinlioaaRTakeB
import Derived.Test.YtlccbgjlinlioaaTakeC
namespace Go.Proofs.Ytlccbgjlinlioaa
open Go.RowKit

theorem exec_load_mid {P : Program} {o : Oper} {a : Act} {u : World} (ty : TypeId) (x : Operand) (ho : o.op = .load ty x) (b off : Nat) (hx : a.eval x = .pointer (some ⟨b, off, none⟩)) (cs : List Value) (d : TypeDesc) (hc : u.rangeAt b off cs)
    (hu : P.underlying ty = some d) (hd : d.isRow = true) (hi : (P.info? ty).map (·.size) = some cs.length) : (execOp a.eval o).run P u = .ok (.value (.agg cs.toArray)) u := by
  unfold execOp
  simp only [ho, hx, Instr.loadAt, Instr.sureAddr, Sem.run_bind, Sem.run_pure, Result.andThen_ok, run_loadVar_mid u b off ty cs d hc hu hd hi]
theorem exec_build {P : Program} {o : Oper} {a : Act} {u : World} (t : TypeId) (parts : Array (Nat × Operand)) (ho : o.op = .build t parts) (vs : List (Nat × Value)) (hv : (parts.map fun (i, x) => (i, a.eval x)).toList = vs) (cells : Array Value) (hc : P.built t vs = some cells) :
    (execOp a.eval o).run P u = .ok (.value (.agg cells)) u := by
  unfold execOp
  subst hv
  simp only [ho, Sem.run_bind, run_build u t _ cells hc, Result.andThen_ok]
  rfl

theorem RtS.grown {w : World} {g cap me : Nat} {cur : Int} {p : PK} {u u' : World} {row : Option Nat} (h : RtS w g cap me cur p u) (hg : w.heap.size + 1 + 1 < g) (hb : u.grownBy u' row) (hr : ∀ k, row = some k → g + 1 ≤ k) : RtS w g cap me cur p u' := by
  have hne : ∀ i, i < g + 1 → some i ≠ row := fun i hi e => by have := hr i e.symm; omega
  have hl := h.res.lt
  exact ⟨h.box.grown hb (hne _ (by omega)), (hb.block _ (by omega) (hne _ (by omega))).trans h.pkt, h.res.grown hb (hne _ (by omega)),
    ⟨hb.os.trans h.bel.os, hb.tape.trans h.bel.tape, hb.output.trans h.bel.output, Nat.le_trans h.bel.size hb.size, fun k hk => (hb.block k (by omega) (hne k (by omega))).trans (h.bel.block k hk)⟩⟩
theorem RN.grown {u u' : World} {B g cap : Nat} {N : NS} {row : Option Nat} (h : RN u B g cap N) (hb : u.grownBy u' row) (hr : ∀ k, row = some k → g + 1 ≤ k) : RN u' B g cap N :=
  h.keep (hb.block g h.lt.2 (fun e => by have := hr g e.symm; omega))
theorem RowAt.only {u u' : World} {B b : Nat} {v : Value} {l : List PK} (h : RowAt u B v l) (ho : Only u u' b) (hb : b < B) : RowAt u' B v l := by
  refine ⟨h.1, ?_⟩
  rcases h.2 with hn | ⟨g, cap, cur, rfl, hg, hh, rest⟩
  · exact .inl hn
  · have hlt : g < u.heap.size := by
      rcases Nat.lt_or_ge g u.heap.size with h | h
      · exact h
      · rw [Array.getElem?_eq_none h] at hh; cases hh
    exact .inr ⟨g, cap, cur, rfl, hg, (ho.block g hlt (by simp; omega)).trans hh, rest⟩
theorem raised_self (s : VS) (p : PK) (n : Nat) : (s.raised p n).self = s.self := by unfold VS.raised; split <;> rfl
theorem took_self (s : VS) (p : PK) (n : Nat) : (s.took p n).self = s.self := by
  unfold VS.took
  split
  · exact claim_self _ _ _ _
  · rfl
theorem took_cur (s : VS) (p : PK) (n : Nat) : (s.took p n).cur = max s.cur p.cur := by
  unfold VS.took
  split
  · exact claim_cur _ _ _ _
  · rfl

set_option maxRecDepth 100000 in
set_option maxHeartbeats 1600000 in
theorem rtake_non {w : World} {B g cap : Nat} {s : VS} (h : RN w B g cap (NS.of s)) {M : Int} (hok : s.Ok M) (hM : 4611686018427387904 ≤ M) (hM2 : M ≤ 9223372036854775806) {p : PK} (hp : p.Ok) (hr : p.right = true) (hc : p.cur ≤ 4611686018427387904) (hle : p.ep ≤ p.cur) (hf : p.frm ≠ s.self) (hk : p.kind ≠ 3) (n : Nat) (hn : n < 64) (hfn : p.frm = n) :
    Calls Try.prog 37 #[refVal s.self g cap s.cur, p.val] w fun e w' => ∃ g' cap' v, e = .returned (.tuple #[refVal s.self g' cap' ((s.took p n).raised p n).cur, v]) ∧ RowAt w' w.heap.size v (((s.took p n).raised p n).pong p ++ ((s.took p n).raised p n).upd p) ∧ RN w' B g' cap' (NS.of ((s.took p n).raised p n)) ∧ Below w.heap.size w w' := by
  have hgl := h.lt
  obtain ⟨self, hself⟩ : ∃ x, x = s.self := ⟨_, rfl⟩
  obtain ⟨cur, hcur⟩ : ∃ x, x = s.cur := ⟨_, rfl⟩
  have HSe := Lib.hid hself
  have HCe := Lib.hid hcur
  rw [← hself] at hf ⊢
  rw [← hcur]
  have hs := rts_start w g cap self cur p
  have hrn := h.belowN hs.bel hgl.2
  have HRt := Lib.hid fun (u : World) => rright_any p u
  rw [hr] at HRt
  have HCp := Lib.hid fun (u : World) (hu : RN u B g cap (NS.of s)) => copied_any (self := self) (cur := cur) hu
  obtain ⟨mx, hmx⟩ : ∃ m, m = max cur p.cur := ⟨_, rfl⟩
  have hmxE : (if cur < p.cur then p.cur else cur) = mx := by rw [hmx]; split <;> omega
  have HMx := Lib.hid hmx
  have hokm : (s.setCur mx).Ok M := hok.setCur mx (by omega) (by have := hok.cur; omega)
  have HOkm := Lib.hid hokm
  have HCl := Lib.hid fun (u : World) (B' g' cap' : Nat) (hu : RN u B' g' cap' (NS.of s)) => rclaim_any (self := self) (cur := mx) hu (NS.of_lt s) n hn hp
  have HTk : Hid (s.took p n = if s.ep n ≤ p.ep then (s.setCur mx).claim n p.ep p.c else s.setCur mx) := by unfold VS.took; rw [hmx, hcur]; exact rfl
  have HOkT := Lib.hid (hok.took hM hp hc hle n hn)
  have HP := Lib.hid hp
  unfold refVal at *
  unfold PK.val at *
  have HPS : Hid (p.cells.toArray.size = 261) := by rw [List.size_toArray]; exact p.cells_len
  have HS29 : Hid ((Try.prog.info? 29).map (·.size) = some p.cells.toArray.size) := by rw [HPS.out]; exact size29
  have HPkt : Hid (∀ u : World, PktAt u (w.heap.size + 1) p → u.heap[w.heap.size + 1]? = some (.cells p.cells.toArray 29 (0, 0))) := fun u hu => hu
  generalize hPC : p.cells.toArray = PC at *
  have HPCe := Lib.hid hPC
  clear hPC
  generalize hw2 : ((w.alloc (.cells #[.int .i64 (self : Int), .slice (some ⟨g, 0, none⟩) 64 cap, .int .u64 cur] 33)).alloc (.cells PC 29)).alloc (.cells #[.int .i64 0, .slice none 0 0, .int .u64 0] 33) = w2 at *
  have HW2 := Lib.hid hw2
  have HS := Lib.hid hs
  have HRn := Lib.hid hrn
  have HP2 := Lib.hid (HPkt.out w2 hs.pkt)
  have d0 := hs.pkt.kind
  have hcd : decide (4611686018427387904 < p.cur) = false := decide_eq_false (by omega)
  have hni : (0 : Int) ≤ (n : Int) ∧ (n : Int) < 64 := by omega
  have hfb : ((n : Int) == (self : Int)) = false := by rw [beq_eq_false_iff_ne, ← hfn]; exact hf
  have hkb : (p.kind == 3) = false := by rw [beq_eq_false_iff_ne]; exact hk
  have hss : self < 64 := by rw [hself]; exact hok.self
  have hsi : (0 : Int) ≤ (self : Int) ∧ (self : Int) < 64 := by omega
  have HSelf2 : Hid ((s.took p n).self = self) := by rw [took_self, ← hself]; exact rfl
  have HCur2 : Hid ((s.took p n).cur = mx) := by rw [took_cur, ← hcur, ← hmx]; exact rfl
  have HMxB : Hid (0 ≤ mx ∧ mx ≤ 9223372036854775806) := by
    have h1 := hok.cur
    have h2 := hp.cur
    refine ⟨?_, ?_⟩ <;> omega
  clear hw2 hs hrn h hr hok hokm hp hself hcur hmx hk hf
  go_enter Try.func37, Try.ntmps37
  go_upto_region 1 with fail
  rw [HW2.out]
  go_wp2_with (with_reducible refine wpList_load_row rfl 29 (.tmp 3) rfl (w.heap.size + 1) rfl 29 PC (0, 0) _ HP2.out Try.underlying29 rfl HS29.out ?_)
  refine (HRt.out _).mono ?_
  rintro e w3 ⟨rfl, hb3⟩
  have hs3 := HS.out.below hb3
  have HS3 := Lib.hid hs3
  have HR3 := Lib.hid (HRn.out.below hb3)
  have c1 := hs3.pkt.frm
  have c2 := hs3.pkt.of
  have c4 := hs3.pkt.cur
  have a0 := hs3.box.cell0
  have a1 := hs3.box.cell1
  have a2 := hs3.box.cell2
  have b0 := hs3.res.cell0
  have b1 := hs3.res.cell1
  have b2 := hs3.res.cell2
  have zb0 := hs3.res.free 0
  have zb1 := hs3.res.free 1
  have zb2 := hs3.res.free 2
  rw [hfn] at c1
  clear hs3 hb3
  go_wp2_with fail
  refine (HCp.out _ HR3.out).mono ?_
  rintro e w4 ⟨g', cap', rfl, hr4, hb4⟩
  have hw3s := HS3.out.res.lt
  have hgt := hr4.lt
  have HS4 := Lib.hid (HS3.out.below hb4)
  have HR4 := Lib.hid hr4
  clear a0 a1 a2 b0 b1 b2 zb0 zb1 zb2 c1 c2 c4 hr4 hb4
  have a0 := HS4.out.box.cell0
  have a1 := HS4.out.box.cell1
  have a2 := HS4.out.box.cell2
  have za0 := HS4.out.box.free 0
  have za1 := HS4.out.box.free 1
  have za2 := HS4.out.box.free 2
  have c1 := HS4.out.pkt.frm
  have c2 := HS4.out.pkt.of
  have c4 := HS4.out.pkt.cur
  rw [hfn] at c1
  go_upto_region 8 with fail
  have ho5 := Box.onlySet w4 w.heap.size (.int .i64 (self : Int)) (.slice (some ⟨g', 0, none⟩) 64 cap') (.int .u64 cur)
  have HS5 := Lib.hid (HS4.out.setBox g' cap' cur)
  have HR5 := Lib.hid (HR4.out.only ho5 (by omega))
  generalize (((w4.setCell ⟨w.heap.size, 0, none⟩ (.int .i64 (self : Int))).setCell ⟨w.heap.size, 1, none⟩ (.slice (some ⟨g', 0, none⟩) 64 cap')).setCell ⟨w.heap.size, 2, none⟩ (.int .u64 cur)) = w5 at *
  clear a0 a1 a2 za0 za1 za2 c1 c2 c4 ho5
  have a2 := HS5.out.box.cell2
  have za2 := HS5.out.box.free 2
  have c4 := HS5.out.pkt.cur
  go_upto_region 9 with fail
  have ho6 : Only w5 (w5.setCell ⟨w.heap.size, 2, none⟩ (.int .u64 mx)) w.heap.size := Only.setCell _ _ _ _
  have HS6 := Lib.hid (HS5.out.setCur mx)
  have HR6 := Lib.hid (HR5.out.only ho6 (by omega))
  generalize w5.setCell ⟨w.heap.size, 2, none⟩ (.int .u64 mx) = w6 at *
  clear a2 za2 c4 ho6 hmxE
  have a1 := HS6.out.box.cell1
  have c3 := HS6.out.pkt.ep
  have e1 : w6.cell? ⟨g', n * 257, none⟩ = some (.int .u64 (s.ep n)) := HR6.out.ep n hn
  generalize s.ep n = en at *
  go_quiet (fail)
  go_upto_if 60 with fail
  go_cut [7] (fun v wx => v = .int .i64 n ∧ RtS w g' cap' self mx p wx ∧ RN wx w3.heap.size g' cap' (NS.of (s.took p n)))
  case first =>
    have HS7 : Hid (∀ m, RtS w g' cap' self mx p (w6.drewN m)) := fun m => HS6.out.below (below_drewN (Below.refl _ _) m)
    have HR7 : Hid (∀ m, RN (w6.drewN m) w3.heap.size g' cap' (NS.of s)) := fun m => HR6.out.below (below_drewN (Below.refl _ _) m)
    by_cases hge : p.ep ≥ en
    · have hk1 := HTk.out
      rw [if_pos hge] at hk1
      have HK1 := Lib.hid hk1
      have HP7 : Hid (∀ m, (w6.drewN m).heap[w.heap.size + 1]? = some (.cells PC 29 (0, 0))) := fun m => HPkt.out _ (HS7.out m).pkt
      have a0 := HS6.out.box.cell0
      have a2 := HS6.out.box.cell2
      clear hk1
      go_wp2_with (with_reducible refine wpList_load_row rfl 29 (.tmp 3) rfl (w.heap.size + 1) rfl 29 PC (0, 0) _ (HP7.out _) Try.underlying29 rfl HS29.out ?_)
      refine (HCl.out _ _ _ _ (HR7.out _)).mono ?_
      rintro e w8 ⟨rfl, hr8, ho8⟩
      have HS8 := Lib.hid ((HS7.out _).only ho8 (by omega))
      have HR8 : Hid (RN w8 w3.heap.size g' cap' (NS.of (s.took p n))) := by
        rw [HK1.out]
        exact RN.claimed HOkm.out hn HP.out hr8
      clear a0 a1 a2 c3 e1 hr8 ho8
      have a0 := HS8.out.box.cell0
      have a1 := HS8.out.box.cell1
      have a2 := HS8.out.box.cell2
      have za0 := HS8.out.box.free 0
      have za1 := HS8.out.box.free 1
      have za2 := HS8.out.box.free 2
      have HS9 := Lib.hid (HS8.out.setBox g' cap' mx)
      have HR9 := Lib.hid (HR8.out.only (Box.onlySet w8 w.heap.size (.int .i64 (self : Int)) (.slice (some ⟨g', 0, none⟩) 64 cap') (.int .u64 mx)) (by omega))
      go_wp2_with fail
      go_meet
      exact ⟨rfl, HS9.out, HR9.out⟩
    · have hk1 := HTk.out
      rw [if_neg hge] at hk1
      have HK1 := Lib.hid hk1
      have hged : decide (en ≤ p.ep) = false := decide_eq_false hge
      clear hk1
      go_wp2_with fail
      go_meet
      exact ⟨rfl, HS7.out _, by rw [HK1.out]; exact RN.cured mx (HR7.out _)⟩
  case rest =>
    obtain ⟨rfl, hs9, hr9⟩ := hcut
    have HS9 := Lib.hid hs9
    have HR9 := Lib.hid hr9
    clear a1 c3 e1 hs9 hr9 HS6 HR6 HS5 HR5
    clear HCl HTk HOkm HR4 HS4 HR3 HS3 HRn HS HCp HRt HP2 hcd hfb hkb
    generalize hS2 : s.took p n = s2 at *
    have HS2 := Lib.hid hS2
    clear hS2
    have a0 := HS9.out.box.cell0
    have a1 := HS9.out.box.cell1
    have c3 := HS9.out.pkt.ep
    have e3 : wc.cell? ⟨g', self * 257, none⟩ = some (.int .u64 (s2.ep self)) := HR9.out.ep self hss
    have HRaise : Hid (s2.raised p n = if p.ep = s2.ep self ∧ self < n then s2.raise else s2) := by
      have : s2.raised p n = if p.ep = s2.ep s2.self ∧ s2.self < n then s2.raise else s2 := rfl
      rw [this, HSelf2.out]
      exact rfl
    have HRs := Lib.hid fun (u : World) (hu : RN u w3.heap.size g' cap' (NS.of s2)) => rraise_any (self := self) (cur := mx) hu hss (by have := HMxB.out; omega)
    unfold refVal at HRs
    generalize s2.ep self = em at *
    go_upto_region 13 with fail
    go_cut [82] (fun v wx => v = .bool (decide (p.ep = em ∧ self < n)) ∧ RtS w g' cap' self mx p wx ∧ RN wx w3.heap.size g' cap' (NS.of s2))
    case first =>
      have HSd : Hid (∀ m, RtS w g' cap' self mx p (wc.drewN m)) := fun m => HS9.out.below (below_drewN (Below.refl _ _) m)
      have HRd : Hid (∀ m, RN (wc.drewN m) w3.heap.size g' cap' (NS.of s2)) := fun m => HR9.out.below (below_drewN (Below.refl _ _) m)
      by_cases heq : p.ep = em
      · have heb : (p.ep == em) = true := by rw [heq]; exact beq_self_eq_true em
        go_quiet (fail)
        go_wp2_with fail
        go_meet
        exact ⟨by simp [heq], HSd.out _, HRd.out _⟩
      · have heb : (p.ep == em) = false := by rw [beq_eq_false_iff_ne]; exact heq
        go_quiet (fail)
        go_wp2_with fail
        go_meet
        exact ⟨by rw [decide_eq_false (fun hh => heq hh.1)], HSd.out _, HRd.out _⟩
    case rest =>
      obtain ⟨bb, hbb⟩ : ∃ bb, bb = decide (p.ep = em ∧ self < n) := ⟨_, rfl⟩
      rw [← hbb] at hcut
      obtain ⟨rfl, hs10, hr10⟩ := hcut
      have HBB := Lib.hid hbb
      have HS10 := Lib.hid hs10
      have HR10 := Lib.hid hr10
      clear a0 a1 c3 e3 hs10 hr10 hbb HS9 HR9
      have a0 := HS10.out.box.cell0
      have a1 := HS10.out.box.cell1
      have a2 := HS10.out.box.cell2
      go_upto_if 82 with fail
      go_cut [7] (fun v wx => v = .int .i64 n ∧ RtS w g' cap' self (s2.raised p n).cur p wx ∧ RN wx w3.heap.size g' cap' (NS.of (s2.raised p n)))
      case first =>
        cases bb with
        | true =>
          have hk1 := HRaise.out
          rw [if_pos (of_decide_eq_true HBB.out.symm)] at hk1
          have HK1 := Lib.hid hk1
          clear hk1
          go_wp2_with fail
          refine (HRs.out _ HR10.out).mono ?_
          rintro e w8 ⟨rfl, hr8, ho8⟩
          have HS8 := Lib.hid (HS10.out.only ho8 (by omega))
          have HR8 : Hid (RN w8 w3.heap.size g' cap' (NS.of s2.raise)) := by
            refine RN.raised ?_
            rw [HSelf2.out, HCur2.out]
            exact hr8
          clear a0 a1 a2 hr8 ho8
          have a0 := HS8.out.box.cell0
          have a1 := HS8.out.box.cell1
          have a2 := HS8.out.box.cell2
          have za0 := HS8.out.box.free 0
          have za1 := HS8.out.box.free 1
          have za2 := HS8.out.box.free 2
          have HS11 := Lib.hid (HS8.out.setBox g' cap' (mx + 1))
          have HR11 := Lib.hid (HR8.out.only (Box.onlySet w8 w.heap.size (.int .i64 (self : Int)) (.slice (some ⟨g', 0, none⟩) 64 cap') (.int .u64 (mx + 1))) (by omega))
          have HCu : Hid (s2.raise.cur = mx + 1) := by
            have : s2.raise.cur = s2.cur + 1 := rfl
            rw [this, HCur2.out]
            exact rfl
          go_wp2_with fail
          go_meet
          rw [HK1.out, HCu.out]
          exact ⟨rfl, HS11.out, HR11.out⟩
        | false =>
          have hk1 := HRaise.out
          rw [if_neg (of_decide_eq_false HBB.out.symm)] at hk1
          have HK1 := Lib.hid hk1
          clear hk1
          go_wp2_with fail
          go_meet
          rw [HK1.out, HCur2.out]
          exact ⟨rfl, HS10.out, HR10.out⟩
      case rest =>
        obtain ⟨rfl, hs12, hr12⟩ := hcut
        have HSelf3 : Hid ((s2.raised p n).self = self) := by rw [raised_self]; exact HSelf2.out
        have HOk3 := Lib.hid (HOkT.out.raised p n)
        generalize hS3 : s2.raised p n = s3 at *
        have HS3 := Lib.hid hS3
        have HS12 := Lib.hid hs12
        have HR12 := Lib.hid hr12
        have d0 := hs12.pkt.kind
        have HPong : Hid (s3.pong p = if p.kind = 1 ∨ p.kind = 4 then [s3.tell 2] else []) := rfl
        have HUpd : Hid (s3.upd p = if s3.beaten p = -1 then [] else [⟨3, s3.self, s3.beaten p, s3.ep (s3.beaten p).toNat, s3.cur, wordsOf (s3.owns (s3.beaten p))⟩]) := rfl
        have HTell := Lib.hid fun (u : World) (hu : RN u w3.heap.size g' cap' (NS.of s3)) => rtell_any hu HOk3.out 2
        have HBt := Lib.hid fun (u : World) (hu : RN u w3.heap.size g' cap' (NS.of s3)) => rbeaten_any hu HOk3.out HP.out
        rw [HSelf3.out] at HTell HBt HUpd
        unfold refVal PK.val at HTell HBt
        have HPC : Hid (p.cells.toArray = PC) := HPCe.out
        rw [HPC.out] at HBt
        clear hs12 hr12 hS3 a0 a1 a2 HRs HRaise HS10 HR10
        have hgw : w.heap.size + 1 + 1 < g' := by omega
        generalize p.kind = kind at *
        generalize hc3 : s3.cur = cur3 at *
        have HC3 := Lib.hid hc3
        clear hc3
        go_upto_region 16 with fail
        go_cut [92] (fun v wx => v = .bool (decide (kind = 1 ∨ kind = 4)) ∧ RtS w g' cap' self cur3 p wx ∧ RN wx w3.heap.size g' cap' (NS.of s3))
        case first =>
          by_cases hk1 : kind = 1
          · subst hk1
            go_wp2_with fail
            go_meet
            exact ⟨rfl, HS12.out, HR12.out⟩
          · have hk1b : (kind == 1) = false := by rw [beq_eq_false_iff_ne]; exact hk1
            go_wp2_with fail
            go_meet
            exact ⟨congrArg Value.bool (by simp [hk1]; rfl), HS12.out, HR12.out⟩
        case rest =>
          obtain ⟨bb, hbb⟩ : ∃ bb, bb = decide (kind = 1 ∨ kind = 4) := ⟨_, rfl⟩
          rw [← hbb] at hcut
          obtain ⟨rfl, hs13, hr13⟩ := hcut
          have HS13 := Lib.hid hs13
          have HR13 := Lib.hid hr13
          have HBB := Lib.hid hbb
          have a0 := hs13.box.cell0
          have a1 := hs13.box.cell1
          have a2 := hs13.box.cell2
          clear hs13 hr13 d0 HS12 HR12 hbb
          go_upto_if 92 with fail
          go_cut [8] (fun v wx => RowAt wx (g' + 1) v (s3.pong p) ∧ RtS w g' cap' self cur3 p wx ∧ RN wx w3.heap.size g' cap' (NS.of s3))
          case first =>
            cases bb with
            | true =>
              have hp1 := HPong.out
              rw [if_pos (of_decide_eq_true HBB.out.symm)] at hp1
              have HPo := Lib.hid hp1
              clear hp1
              go_wp2_with fail
              refine (HTell.out _ HR13.out).mono ?_
              rintro e wt ⟨rfl, hbt⟩
              have HS14 := Lib.hid (HS13.out.below hbt)
              have HR14 := Lib.hid (HR13.out.below hbt)
              clear hbt a0 a1 a2
              generalize s3.tell 2 = tp at *
              go_wp2_with (with_reducible refine wpList_buildSlice40 rfl (.tmp 95) rfl tp rfl ?_; simp only [Act.put, List.setIfInBounds_toArray, List.set_cons_succ, List.set_cons_zero])
              have hbA : Below wt.heap.size wt (wt.alloc (.cells tp.cells.toArray 29)) := (Below.refl _ _).alloc (Nat.le_refl _) _
              have HS15 := Lib.hid (HS14.out.below hbA)
              have HR15 := Lib.hid (HR14.out.below hbA)
              have hgt15 := HR15.out.lt.2
              refine wp_append40 (.tmp 93) (.tmp 96) rfl (g' + 1) (.slice none 0 0) [] rfl (RowAt.nil _ _) (by simp) hgt15 wt.heap.size tp rfl (heap_alloc_new wt _) ?_
              intro v7 w7 hr7 hg7
              simp only [Act.put, List.setIfInBounds_toArray, List.set_cons_zero, List.set_cons_succ]
              have HV7 := Lib.hid hr7
              have HS16 := Lib.hid (HS15.out.grown hgw hg7 (fun k hk => by cases hk))
              have HR16 := Lib.hid (HR15.out.grown hg7 (fun k hk => by cases hk))
              clear hr7 hg7 hbA
              go_wp2_with fail
              go_meet
              exact ⟨by rw [HPo.out]; exact HV7.out, HS16.out, HR16.out⟩
            | false =>
              have hp1 := HPong.out
              rw [if_neg (of_decide_eq_false HBB.out.symm)] at hp1
              have HPo := Lib.hid hp1
              clear hp1
              go_wp2_with fail
              go_meet
              exact ⟨by rw [HPo.out]; exact RowAt.nil _ _, HS13.out, HR13.out⟩
          case rest =>
            obtain ⟨hrow, hs16, hr16⟩ := hcut
            have HV := Lib.hid hrow
            have HS16 := Lib.hid hs16
            have HR16 := Lib.hid hr16
            have HP16 := Lib.hid (HPkt.out _ hs16.pkt)
            have a0 := hs16.box.cell0
            have a1 := hs16.box.cell1
            have a2 := hs16.box.cell2
            have hbr := HOk3.out.beaten p
            clear hrow hs16 hr16 HS13 HR13 HPong
            go_wp2_with (with_reducible refine wpList_load_row rfl 29 (.tmp 3) rfl (w.heap.size + 1) rfl 29 PC (0, 0) _ HP16.out Try.underlying29 rfl HS29.out ?_)
            refine (HBt.out _ HR16.out).mono ?_
            rintro e w17 ⟨rfl, hb17⟩
            have HS17 := Lib.hid (HS16.out.below hb17)
            have HR17 := Lib.hid (HR16.out.below hb17)
            have HV17 := Lib.hid (HV.out.below hb17)
            clear hb17 a0 a1 a2 HS16 HR16 HV HP16 HBt
            have a0 := HS17.out.box.cell0
            have a1 := HS17.out.box.cell1
            have a2 := HS17.out.box.cell2
            generalize s3.beaten p = ob at *
            by_cases hob : ob = -1
            · have hp1 := HUpd.out
              rw [if_pos hob] at hp1
              have HU2 := Lib.hid hp1
              clear hp1 HUpd
              subst hob
              have b0 := HS17.out.res.cell0
              have b1 := HS17.out.res.cell1
              have b2 := HS17.out.res.cell2
              have zb0 := HS17.out.res.free 0
              have zb1 := HS17.out.res.free 1
              have zb2 := HS17.out.res.free 2
              go_wp2
              refine bodyPost_ret (results_box2 (p := 4) (q := 5) rfl (HS17.out.res.set _ _ _) _ rfl) rfl ?_
              rw [HS2.out, HS3.out, HC3.out]
              refine ⟨g', cap', _, rfl, ?_, (HR17.out.only (Box.onlySet _ _ _ _ _) (by omega)).mono (by omega), (Box.onlySet _ (w.heap.size + 1 + 1) _ _ _).new HS17.out.bel (by omega) HS17.out.bel.size⟩
              rw [HU2.out, List.append_nil]
              exact (HV17.out.only (Box.onlySet _ _ _ _ _) (by omega)).mono (by omega)
            · have hp1 := HUpd.out
              rw [if_neg hob] at hp1
              obtain ⟨k, rfl⟩ : ∃ k : Nat, ob = k := ⟨ob.toNat, by omega⟩
              rw [Int.toNat_natCast] at hp1
              have HU2 := Lib.hid hp1
              have hk64 : k < 64 := by omega
              have hki : (0 : Int) ≤ (k : Int) ∧ (k : Int) < 64 := by omega
              clear hp1 hob hbr HUpd
              have HSD := Lib.hid HS17.out.drew
              have HRD := Lib.hid HR17.out.drew
              have HVD : Hid (RowAt w17.drew (g' + 1) _ (s3.pong p)) := HV17.out
              have HWL : Hid (∀ u, RN u w3.heap.size g' cap' (NS.of s3) → u.rangeAt g' (k * 257 + 1) (wordsList (wordsOf (s3.owns k))) ∧ u.cell? ⟨g', k * 257, none⟩ = some (.int .u64 (s3.ep k))) := fun u hu => ⟨hu.claims k hk64, hu.ep k hk64⟩
              have hlen : Hid ((s3.pong p).length ≤ 1000) := by show _ ≤ _; unfold VS.pong; split <;> simp
              have HBd := Lib.hid (build29b 3 self k (s3.ep k) cur3 (wordsOf (s3.owns k)))
              have HBS := Lib.hid fun (u : World) => run_buildSlice40 ⟨3, self, k, s3.ep k, cur3, wordsOf (s3.owns k)⟩ u
              have HS24 : Hid ((Try.prog.info? 24).map (·.size) = some (wordsList (wordsOf (s3.owns k))).length) := by rw [wordsList_len]; exact size24b
              unfold PK.val at HBS
              unfold wordsArr at HBd
              generalize hq : (⟨3, self, k, s3.ep k, cur3, wordsOf (s3.owns k)⟩ : PK) = q at *
              generalize wordsList (wordsOf (s3.owns k)) = WL at *
              generalize hqF : q.cells.toArray = F at *
              have HQF := Lib.hid hqF
              generalize hlp : s3.pong p = lp at *
              have HLP := Lib.hid hlp
              clear hq hqF hlp
              go_wp2_with fail
              refine wp_region_held_drew (S := (fun u => u.cell? ⟨w.heap.size, 0, none⟩ = some (.int .i64 (self : Int)) ∧ u.cell? ⟨w.heap.size, 1, none⟩ = some (.slice (some ⟨g', 0, none⟩) 64 cap') ∧ u.cell? ⟨w.heap.size, 2, none⟩ = some (.int .u64 cur3) ∧ u.cell? ⟨g', k * 257, none⟩ = some (.int .u64 (s3.ep k)) ∧ u.rangeAt g' (k * 257 + 1) WL ∧ RtS w g' cap' self cur3 p u ∧ RN u w3.heap.size g' cap' (NS.of s3))) (by kernel_rfl) ⟨HSD.out.box.cell0, HSD.out.box.cell1, HSD.out.box.cell2, (HWL.out _ HRD.out).2, (HWL.out _ HRD.out).1, HSD.out, HRD.out⟩ (fun hHeld => ?_)
              clear a0 a1 a2
              refine held_take 0 103 rfl (by kernel_rfl) (by kernel_rfl) (by kernel_rfl) rfl rfl (fun _ _ _ h => h) (by assumption) (v := ?_) (fun u hSw => ?_) ?_
              rotate_left
              · (try dsimp only at hSw)
                go_simp
                try with_reducible rfl
              simp only [List.setIfInBounds_toArray, List.set_cons_zero, List.set_cons_succ]
              refine held_take 1 104 rfl (by kernel_rfl) (by kernel_rfl) (by kernel_rfl) rfl rfl (fun _ _ _ h => h) (by assumption) (v := ?_) (fun u hSw => ?_) ?_
              rotate_left
              · (try dsimp only at hSw)
                go_simp
                try with_reducible rfl
              simp only [List.setIfInBounds_toArray, List.set_cons_zero, List.set_cons_succ]
              refine held_take 2 105 rfl (by kernel_rfl) (by kernel_rfl) (by kernel_rfl) rfl rfl (fun _ _ _ h => h) (by assumption) (v := ?_) (fun u hSw => ?_) ?_
              rotate_left
              · (try dsimp only at hSw)
                go_simp
                try with_reducible rfl
              simp only [List.setIfInBounds_toArray, List.set_cons_zero, List.set_cons_succ]
              refine held_take 3 106 rfl (by kernel_rfl) (by kernel_rfl) (by kernel_rfl) rfl rfl (fun _ _ _ h => h) (by assumption) (v := ?_) (fun u hSw => ?_) ?_
              rotate_left
              · (try dsimp only at hSw)
                go_simp
                try with_reducible rfl
              simp only [List.setIfInBounds_toArray, List.set_cons_zero, List.set_cons_succ]
              refine held_take 4 107 rfl (by kernel_rfl) (by kernel_rfl) (by kernel_rfl) rfl rfl (fun _ _ _ h => h) (by assumption) (v := ?_) (fun u hSw => ?_) ?_
              rotate_left
              · (try dsimp only at hSw)
                go_simp
                try with_reducible rfl
              simp only [List.setIfInBounds_toArray, List.set_cons_zero, List.set_cons_succ]
              refine held_take 5 108 rfl (by kernel_rfl) (by kernel_rfl) (by kernel_rfl) rfl rfl (fun _ _ _ h => h) (by assumption) (v := ?_) (fun u hSw => ?_) ?_
              rotate_left
              · (try dsimp only at hSw)
                go_simp
                try with_reducible rfl
              simp only [List.setIfInBounds_toArray, List.set_cons_zero, List.set_cons_succ]
              refine held_take 6 109 rfl (by kernel_rfl) (by kernel_rfl) (by kernel_rfl) rfl rfl (fun _ _ _ h => h) (by assumption) (v := ?_) (fun u hSw => ?_) ?_
              rotate_left
              · (try dsimp only at hSw)
                go_simp
                try with_reducible rfl
              simp only [List.setIfInBounds_toArray, List.set_cons_zero, List.set_cons_succ]
              refine held_take 7 110 rfl (by kernel_rfl) (by kernel_rfl) (by kernel_rfl) rfl rfl (fun _ _ _ h => h) (by assumption) (v := ?_) (fun u hSw => ?_) ?_
              rotate_left
              · (try dsimp only at hSw)
                go_simp
                try with_reducible rfl
              simp only [List.setIfInBounds_toArray, List.set_cons_zero, List.set_cons_succ]
              refine held_take 8 111 rfl (by kernel_rfl) (by kernel_rfl) (by kernel_rfl) rfl rfl (fun _ _ _ h => h) (by assumption) (v := ?_) (fun u hSw => ?_) ?_
              rotate_left
              · (try dsimp only at hSw)
                go_simp
                try with_reducible rfl
              simp only [List.setIfInBounds_toArray, List.set_cons_zero, List.set_cons_succ]
              refine held_take 9 112 rfl (by kernel_rfl) (by kernel_rfl) (by kernel_rfl) rfl rfl (fun _ _ _ h => h) (by assumption) (v := ?_) (fun u hSw => ?_) ?_
              rotate_left
              · (try dsimp only at hSw)
                go_simp
                try with_reducible rfl
              simp only [List.setIfInBounds_toArray, List.set_cons_zero, List.set_cons_succ]
              refine held_take 10 113 rfl (by kernel_rfl) (by kernel_rfl) (by kernel_rfl) rfl rfl (fun _ _ _ h => h) (by assumption) (v := ?_) (fun u hSw => ?_) ?_
              rotate_left
              · (try dsimp only at hSw)
                go_simp
                try with_reducible rfl
              simp only [List.setIfInBounds_toArray, List.set_cons_zero, List.set_cons_succ]
              refine held_take 11 114 rfl (by kernel_rfl) (by kernel_rfl) (by kernel_rfl) rfl rfl (fun _ _ _ h => h) (by assumption) (v := ?_) (fun u hSw => ?_) ?_
              rotate_left
              · (try dsimp only at hSw)
                go_simp
                try with_reducible rfl
              simp only [List.setIfInBounds_toArray, List.set_cons_zero, List.set_cons_succ]
              refine held_take 12 115 rfl (by kernel_rfl) (by kernel_rfl) (by kernel_rfl) rfl rfl (fun _ _ _ h => h) (by assumption) (v := ?_) (fun u hSw => ?_) ?_
              rotate_left
              · (try dsimp only at hSw)
                go_simp
                try with_reducible rfl
              simp only [List.setIfInBounds_toArray, List.set_cons_zero, List.set_cons_succ]
              refine held_take 13 116 rfl (by kernel_rfl) (by kernel_rfl) (by kernel_rfl) rfl rfl (fun _ _ _ h => h) (by assumption) (v := ?_) (fun u hSw => ?_) ?_
              rotate_left
              · (try dsimp only at hSw)
                go_simp
                try with_reducible rfl
              simp only [List.setIfInBounds_toArray, List.set_cons_zero, List.set_cons_succ]
              refine held_take 14 117 rfl (by kernel_rfl) (by kernel_rfl) (by kernel_rfl) rfl rfl (fun _ _ _ h => h) (by assumption) (v := ?_) (fun u hSw => ?_) ?_
              rotate_left
              · (try dsimp only at hSw)
                go_simp
                try with_reducible rfl
              simp only [List.setIfInBounds_toArray, List.set_cons_zero, List.set_cons_succ]
              refine held_take 15 118 rfl (by kernel_rfl) (by kernel_rfl) (by kernel_rfl) rfl rfl (fun _ _ _ h => h) (by assumption) (v := ?_) (fun u hSw => ?_) ?_
              rotate_left
              · (try dsimp only at hSw)
                go_simp
                try with_reducible rfl
              simp only [List.setIfInBounds_toArray, List.set_cons_zero, List.set_cons_succ]
              refine held_take 16 119 rfl (by kernel_rfl) (by kernel_rfl) (by kernel_rfl) rfl rfl (fun _ _ _ h => h) (by assumption) (v := ?_) (fun u hSw => ?_) ?_
              rotate_left
              · (try dsimp only at hSw)
                go_simp
                try with_reducible rfl
              simp only [List.setIfInBounds_toArray, List.set_cons_zero, List.set_cons_succ]
              refine held_take 17 120 rfl (by kernel_rfl) (by kernel_rfl) (by kernel_rfl) rfl rfl (fun _ _ _ h => h) (by assumption) (v := .agg WL.toArray) (fun u hSw => exec_load_mid 24 (.tmp 119) rfl g' (k * 257 + 1) rfl WL _ hSw.2.2.2.2.1 Try.underlying24 rfl HS24.out) ?_
              simp only [List.setIfInBounds_toArray, List.set_cons_zero, List.set_cons_succ]
              refine held_take 18 121 rfl (by kernel_rfl) (by kernel_rfl) (by kernel_rfl) rfl rfl (fun _ _ _ h => h) (by assumption) (v := .agg F) (fun u hSw => exec_build 29 #[(0, .const (.int .i64 3)), (1, .tmp 105), (2, .tmp 106), (3, .tmp 112), (4, .tmp 114), (5, .tmp 120)] rfl [(0, .int .i64 3), (1, .int .i64 (self : Int)), (2, .int .i64 (k : Int)), (3, .int .u64 (s3.ep k)), (4, .int .u64 cur3), (5, .agg WL.toArray)] (by simp [Act.eval]) F HBd.out) ?_
              simp only [List.setIfInBounds_toArray, List.set_cons_zero, List.set_cons_succ]
              generalize w17.drew = we at *
              have hbA : Below we.heap.size we (we.alloc (.cells F 29)) := (Below.refl _ _).alloc (Nat.le_refl _) _
              have HSf := Lib.hid (HSD.out.below hbA)
              have HRf := Lib.hid (HRD.out.below hbA)
              have HVf := Lib.hid (HVD.out.below hbA)
              have HBlk : Hid ((we.alloc (.cells F 29)).heap[we.heap.size]? = some (.cells q.cells.toArray 29 (0, 0))) := by rw [HQF.out]; exact heap_alloc_new we _
              have hgtf := HRf.out.lt.2
              refine held_do 19 rfl (by kernel_rfl) rfl (fun K hK => ?_)
              refine wp_buildSlice40d 122 rfl (.tmp 121) rfl F rfl HBS.out ?_
              refine hK _ _ ⟨HSf.out.box.cell0, HSf.out.box.cell1, HSf.out.box.cell2, (HWL.out _ HRf.out).2, (HWL.out _ HRf.out).1, HSf.out, HRf.out⟩ ?_
              clear hK hHeld hbA
              simp only [List.setIfInBounds_toArray, List.set_cons_zero, List.set_cons_succ]
              refine held_do 20 rfl (by kernel_rfl) rfl (fun K hK => ?_)
              refine wp_append40d 123 rfl (.tmp 103) (.tmp 122) rfl (g' + 1) _ lp rfl HVf.out hlen.out hgtf we.heap.size q rfl HBlk.out ?_
              intro v7 w7 hr7 hg7
              have HSg := Lib.hid (HSf.out.grown hgw hg7 (fun j hj => (HVf.out.ownLt j hj).1))
              have HRg := Lib.hid (HRf.out.grown hg7 (fun j hj => (HVf.out.ownLt j hj).1))
              refine hK _ _ ⟨HSg.out.box.cell0, HSg.out.box.cell1, HSg.out.box.cell2, (HWL.out _ HRg.out).2, (HWL.out _ HRg.out).1, HSg.out, HRg.out⟩ ?_
              have HV7 := Lib.hid hr7
              clear hK hr7 hg7
              have hHeld : (fun u => u.cell? ⟨w.heap.size, 0, none⟩ = some (.int .i64 (self : Int)) ∧ u.cell? ⟨w.heap.size, 1, none⟩ = some (.slice (some ⟨g', 0, none⟩) 64 cap') ∧ u.cell? ⟨w.heap.size, 2, none⟩ = some (.int .u64 cur3) ∧ u.cell? ⟨g', k * 257, none⟩ = some (.int .u64 (s3.ep k)) ∧ u.rangeAt g' (k * 257 + 1) WL ∧ RtS w g' cap' self cur3 p u ∧ RN u w3.heap.size g' cap' (NS.of s3)) w7 := ⟨HSg.out.box.cell0, HSg.out.box.cell1, HSg.out.box.cell2, (HWL.out _ HRg.out).2, (HWL.out _ HRg.out).1, HSg.out, HRg.out⟩
              simp only [List.setIfInBounds_toArray, List.set_cons_zero, List.set_cons_succ]
              refine held_take 21 8 rfl (by kernel_rfl) (by kernel_rfl) (by kernel_rfl) rfl rfl (fun _ _ _ h => h) (by assumption) (v := ?_) (fun u hSw => ?_) ?_
              rotate_left
              · (try dsimp only at hSw)
                go_simp
                try with_reducible rfl
              simp only [List.setIfInBounds_toArray, List.set_cons_zero, List.set_cons_succ]
              refine wpAnyH_done (by kernel_rfl) ?_ _
              clear hHeld
              have a0 := HSg.out.box.cell0
              have a1 := HSg.out.box.cell1
              have a2 := HSg.out.box.cell2
              have b0 := HSg.out.res.cell0
              have b1 := HSg.out.res.cell1
              have b2 := HSg.out.res.cell2
              have zb0 := HSg.out.res.free 0
              have zb1 := HSg.out.res.free 1
              have zb2 := HSg.out.res.free 2
              go_wp2
              refine bodyPost_ret (results_box2 (p := 4) (q := 5) rfl (HSg.out.res.set _ _ _) _ rfl) rfl ?_
              rw [HS2.out, HS3.out, HC3.out]
              refine ⟨g', cap', _, rfl, ?_, (HRg.out.only (Box.onlySet _ _ _ _ _) (by omega)).mono (by omega), (Box.onlySet _ (w.heap.size + 1 + 1) _ _ _).new HSg.out.bel (by omega) HSg.out.bel.size⟩
              rw [HU2.out, HLP.out]
              exact (HV7.out.only (Box.onlySet _ _ _ _ _) (by omega)).mono (by omega)

end Go.Proofs.Ytlccbgjlinlioaa
