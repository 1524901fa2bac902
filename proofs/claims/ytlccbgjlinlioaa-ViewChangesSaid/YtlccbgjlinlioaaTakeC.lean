/- The walk of Take: the others that are taken in. -/
import Derived.Test.YtlccbgjlinlioaaTakeB
import Derived.Test.YtlccbgjlinlioaaRow
namespace Go.Proofs.Ytlccbgjlinlioaa
open Go.RowKit

/-- two of one epoch: the lesser one takes a new one -/
def VS.raised (s : VS) (p : PK) (n : Nat) : VS := if p.ep = s.ep s.self ∧ s.self < n then s.raise else s
def VS.pong (s : VS) (p : PK) : List PK := if p.kind = 1 ∨ p.kind = 4 then [s.tell 2] else []
def VS.upd (s : VS) (p : PK) : List PK := if s.beaten p = -1 then [] else [⟨3, s.self, s.beaten p, s.ep (s.beaten p).toNat, s.cur, wordsOf (s.owns (s.beaten p))⟩]

theorem VS.Ok.raise {s : VS} {M : Int} (h : s.Ok M) : s.raise.Ok (M + 1) := by
  have hc := h.cur
  refine ⟨h.self, h.own, fun j => ?_, by show s.cur + 1 ≤ M + 1; omega⟩
  have := h.ep j
  unfold VS.raise VS.setEp VS.setCur
  simp only
  split <;> omega
theorem VS.Ok.up {s : VS} {M N : Int} (h : s.Ok M) (hMN : M ≤ N) : s.Ok N := ⟨h.self, h.own, h.ep, Int.le_trans h.cur hMN⟩
theorem VS.Ok.raised {s : VS} {M : Int} (h : s.Ok M) (p : PK) (n : Nat) : (s.raised p n).Ok (M + 1) := by
  unfold VS.raised
  split
  · exact h.raise
  · exact h.up (by omega)

theorem RowAt.below {u u' : World} {B : Nat} {v : Value} {l : List PK} (h : RowAt u B v l) (hb : Below u.heap.size u u') : RowAt u' B v l := by
  refine ⟨h.1, ?_⟩
  rcases h.2 with hn | ⟨g, cap, cur, rfl, hg, hh, rest⟩
  · exact .inl hn
  · have hlt : g < u.heap.size := by
      rcases Nat.lt_or_ge g u.heap.size with h | h
      · exact h
      · rw [Array.getElem?_eq_none h] at hh; cases hh
    exact .inr ⟨g, cap, cur, rfl, hg, (hb.block g hlt).trans hh, rest⟩
theorem RowAt.ownLt {u : World} {B : Nat} {v : Value} {l : List PK} (h : RowAt u B v l) : ∀ k, v.ownBlock = some k → B ≤ k ∧ k < u.heap.size := World.ownsRow.lt h
theorem grown_take {w : World} {g : Nat} {s : VS} {p : PK} {u u' : World} {row : Option Nat} (hg : g < w.heap.size) (h : TakeW w g s p u) (hb : u.grownBy u' row) (hr : ∀ k, row = some k → w.heap.size + 1 ≤ k) : TakeW w g s p u' := by
  obtain ⟨cs, h1, h2⟩ := h.view
  have hne : ∀ i, i < w.heap.size + 1 → some i ≠ row := fun i hi e => by have := hr i e.symm; omega
  exact ⟨⟨cs, (hb.block g h.view.lt (hne g (by omega))).trans h1, h2⟩, (hb.block _ h.size (hne _ (by omega))).trans h.pkt,
    ⟨hb.os.trans h.only.os, hb.tape.trans h.only.tape, hb.output.trans h.only.output, Nat.le_trans h.only.size hb.size, fun k hk hng => (hb.block k (Nat.lt_of_lt_of_le hk h.only.size) (hne k (by omega))).trans (h.only.block k hk hng)⟩, Nat.lt_of_lt_of_le h.size hb.size⟩

theorem held_take {P : Program} {ops : Array Oper} {Q : Exit → Act → World → Prop} {md : Region.Mode} {S : World → Prop} (i : Nat) (d : Tmp) {oi : Oper} {v : Value} {fuel : Nat} {listed : Array Bool} {a : Act} {w : World} (hi : ops[i]? = some oi)
    (hs : Region.noSelect ops = true) (hf : Region.free md ops listed i = true) (hr : (Region.ready md ops listed).contains i = true) (hd : oi.dst = some d) (hg : oi.guard = none)
    (hQ : ∀ c a w, Q (.panic c) (a.put oi.dst v) w → Q (.panic c) a w) (hS : S w) (hy : ∀ u, S u → (execOp a.eval oi).run P u = .ok (.value v) u)
    (h : wpAnyH P md ops Q S fuel (listed.setIfInBounds i true) { tmps := a.tmps.setIfInBounds d v, defers := a.defers } w) : wpAnyH P md ops Q S (fuel + 1) listed a w := by
  refine wpAnyH_take hi hs hf hr hQ (Or.inl ⟨by simp [Region.wanted, hg], hy⟩) hS ?_
  rw [hd]
  exact h

theorem held_do {P : Program} {ops : Array Oper} {Q : Exit → Act → World → Prop} {md : Region.Mode} {S : World → Prop} (i : Nat) {oi : Oper} {fuel : Nat} {listed : Array Bool} {a : Act} {w : World} (hi : ops[i]? = some oi)
    (hr : Region.ready md ops listed = [i]) (hg : oi.guard = none)
    (h : ∀ K : Act → World → Prop, (∀ a' w', S w' → wpAnyH P md ops Q S fuel (listed.setIfInBounds i true) a' w' → K a' w') → oi.wp P a w K Q) : wpAnyH P md ops Q S (fuel + 1) listed a w := by
  refine wpAnyH_all hr (by simp) fun j hj => ?_
  have hji : j = i := by simpa using hj
  subst hji
  unfold wpOp
  simp only [hi]
  rw [if_pos (by simp [Region.wanted, hg])]
  exact .inl (h _ fun a' w' h1 h2 => ⟨h1, h2⟩)

theorem wp_buildSlice40d {o : Oper} {a : Act} {w : World} {K : Act → World → Prop} {Q : Exit → Act → World → Prop} (d : Tmp) (hd : o.dst = some d) (x : Operand) (ho : o.op = .buildSlice 40 1 #[(0, x)]) (F : Array Value) (hx : a.eval x = .agg F)
    (hr : ∀ u, (Instr.buildSlice 40 1 #[(0, .agg F)]).run Try.prog u = .ok (.slice (some ⟨u.heap.size, 0, none⟩) 1 1) (u.alloc (.cells F 29)))
    (h : K { tmps := a.tmps.setIfInBounds d (.slice (some ⟨w.heap.size, 0, none⟩) 1 1), defers := a.defers } (w.alloc (.cells F 29))) : o.wp Try.prog a w K Q := by
  refine wp_buildSlice40 x ho F hx hr ?_
  rw [hd]
  exact h
theorem wp_append40d {o : Oper} {a : Act} {w : World} {K : Act → World → Prop} {Q : Exit → Act → World → Prop} (d : Tmp) (hd : o.dst = some d) (s x : Operand) (ho : o.op = .call { callee := .builtin .append, args := #[s, x], argTypes := #[40, 40] })
    (B : Nat) (v : Value) (l : List PK) (hs : a.eval s = v) (h : RowAt w B v l) (hl : l.length ≤ 1000) (hB : B ≤ w.heap.size) (b : Nat) (p : PK) (hx : a.eval x = .slice (some ⟨b, 0, none⟩) 1 1) (hb : w.heap[b]? = some (.cells p.cells.toArray 29 (0, 0)))
    (hk : ∀ v' w', RowAt w' B v' (l ++ [p]) → w.grownBy w' v.ownBlock → K { tmps := a.tmps.setIfInBounds d v', defers := a.defers } w') : o.wp Try.prog a w K Q := by
  refine wp_append40 s x ho B v l hs h hl hB b p hx hb fun v' w' h1 h2 => ?_
  rw [hd]
  exact hk v' w' h1 h2

theorem VS.Ok.beatFold {s : VS} {M : Int} (h : s.Ok M) (frm e : Int) : ∀ (l : List Nat) (f : Int), -1 ≤ f ∧ f < 64 → -1 ≤ l.foldl (fun f k => s.beatSlot frm e f k) f ∧ l.foldl (fun f k => s.beatSlot frm e f k) f < 64
  | [], _, hf => hf
  | k :: l, f, hf => by
    refine VS.Ok.beatFold h frm e l _ ?_
    show -1 ≤ s.beatSlot frm e f k ∧ s.beatSlot frm e f k < 64
    unfold VS.beatSlot
    split
    · exact h.own k
    · exact hf
theorem VS.Ok.beaten {s : VS} {M : Int} (h : s.Ok M) (p : PK) : -1 ≤ s.beaten p ∧ s.beaten p < 64 := h.beatFold p.frm p.ep _ _ (by omega)

set_option maxRecDepth 100000 in
set_option maxHeartbeats 1600000 in
theorem take_non {w : World} {g : Nat} {s : VS} (h : ViewAt w g s) {M : Int} (hok : s.Ok M) (hM : 4611686018427387904 ≤ M) (hM2 : M ≤ 9223372036854775806) {p : PK} (hp : p.Ok) (hr : p.right = true) (hc : p.cur ≤ 4611686018427387904) (hle : p.ep ≤ p.cur) (hk : p.kind ≠ 3) (n : Nat) (hn : n < 64) (hfn : p.frm = n) (hf : p.frm ≠ s.self) :
    Calls Try.prog 13 #[.pointer (some ⟨g, 0, none⟩), p.val] w fun e w' => ∃ v, e = .returned v ∧ RowAt w' (w.heap.size + 1) v (((s.took p n).raised p n).pong p ++ ((s.took p n).raised p n).upd p) ∧ TakeW w g ((s.took p n).raised p n) p w' := by
  have HRt := Lib.hid fun (u : World) => right_any p u
  rw [hr] at HRt
  have HT : Hid (TakeW w g s p (w.alloc (.cells p.cells.toArray 29))) := ⟨h.below ((Below.refl _ _).alloc (Nat.le_refl _) _), heap_alloc_new w _, below_only ((Below.refl _ _).alloc (Nat.le_refl _) _) g, by simp⟩
  unfold PK.val at *
  have HPS : Hid (p.cells.toArray.size = 261) := by rw [List.size_toArray]; exact p.cells_len
  have HS29 : Hid ((Try.prog.info? 29).map (·.size) = some p.cells.toArray.size) := by rw [HPS.out]; exact size29
  obtain ⟨C, hC⟩ : ∃ C : World → Prop, C = fun u => TakeW w g s p u := ⟨_, rfl⟩
  have HCi : Hid (∀ u, C u → TakeW w g s p u) := fun u h => by rw [hC] at h; exact h
  have HCo : Hid (∀ u, TakeW w g s p u → C u) := fun u h => by rw [hC]; exact h
  have HC0 : Hid (C (w.alloc (.cells p.cells.toArray 29)).drew) := HCo.out _ HT.out.drew
  have KB : Hid (∀ u, C u → u.heap[w.heap.size]? = some (.cells p.cells.toArray 29 (0, 0))) := fun u hu => (HCi.out u hu).pkt
  have K1 : Hid (∀ u, C u → u.cell? ⟨w.heap.size, 1, none⟩ = some (.int .i64 p.frm)) := fun u hu => (HCi.out u hu).pkt.frm
  have K2 : Hid (∀ u, C u → u.cell? ⟨w.heap.size, 2, none⟩ = some (.int .i64 p.of)) := fun u hu => (HCi.out u hu).pkt.of
  have K4 : Hid (∀ u, C u → u.cell? ⟨w.heap.size, 4, none⟩ = some (.int .u64 p.cur)) := fun u hu => (HCi.out u hu).pkt.cur
  have KG : Hid (∀ u, C u → u.cell? ⟨g, 0, none⟩ = some (.int .i64 s.self)) := fun u hu => (HCi.out u hu).view.self
  have KR : Hid (∀ u, C u → Calls Try.prog 31 #[.agg p.cells.toArray] u fun e u' => e = .returned (.bool true) ∧ C u') := fun u hu => class_call (HRt.out u) fun u' hb => HCo.out _ ((HCi.out _ hu).below hb)
  have d0 := HT.out.pkt.kind
  have hcd : decide (4611686018427387904 < p.cur) = false := decide_eq_false (by omega)
  have hfb : ((n : Int) == (s.self : Int)) = false := by rw [beq_eq_false_iff_ne, ← hfn]; exact hf
  have hkb : (p.kind == 3) = false := by rw [beq_eq_false_iff_ne]; exact hk
  rw [hfn] at K1
  have hgl := h.lt
  have hni : (0 : Int) ≤ (n : Int) ∧ (n : Int) < 64 := by omega
  have hok1 := hok.setCur (max s.cur p.cur) (by omega) (by have := hok.cur; omega)
  have HC1 := Lib.hid fun (u : World) (hu : ViewAt u g (s.setCur (max s.cur p.cur))) => claim_any hu hok1 n hn hp (by show p.ep ≤ max s.cur p.cur; omega)
  have HTk : Hid (s.took p n = if s.ep n ≤ p.ep then (s.setCur (max s.cur p.cur)).claim n p.ep p.c else s.setCur (max s.cur p.cur)) := rfl
  have hok2 := hok.took hM hp hc hle n hn
  have HOK2 := Lib.hid hok2
  have HOK3 := Lib.hid (hok2.raised p n)
  have hce := hok.cur
  have hpc := hp.cur
  have HP := Lib.hid hp
  unfold PK.val at HC1
  generalize hPC : p.cells.toArray = PC at *
  have HPC := Lib.hid hPC
  clear hPC hC h hr hok hok1 hok2
  go_enter Try.func13, Try.ntmps13
  go_wp2_with fail
  refine wp_region_class (C := C) (by kernel_rfl) (by kernel_rfl) HC0.out ?_
  repeat (first
    | go_big_quiet_skip
    | (go_big_quiet_want; refine quiet_load_row 29 (.tmp 3) rfl _ rfl 29 _ _ _ KB.out Try.underlying29 rfl HS29.out ?_; simp only [Act.put, List.setIfInBounds_toArray, List.set_cons_succ, List.set_cons_zero]; go_big_quiet_on)
    | (go_big_quiet_want; refine quiet_load_cell 22 (.tmp 16) rfl _ rfl _ K4.out isAgg22 ?_; simp only [Act.put, List.setIfInBounds_toArray, List.set_cons_succ, List.set_cons_zero]; go_big_quiet_on)
    | (go_big_quiet_want; refine quiet_load_cell 3 (.tmp 21) rfl _ rfl _ K1.out isAgg3 ?_; simp only [Act.put, List.setIfInBounds_toArray, List.set_cons_succ, List.set_cons_zero]; go_big_quiet_on)
    | (go_big_quiet_want; refine quiet_load_cell 3 (.tmp 25) rfl _ rfl _ KG.out isAgg3 ?_; simp only [Act.put, List.setIfInBounds_toArray, List.set_cons_succ, List.set_cons_zero]; go_big_quiet_on)
    | (go_big_quiet_want; refine quiet_load_cell 3 (.tmp 32) rfl _ rfl _ K2.out isAgg3 ?_; simp only [Act.put, List.setIfInBounds_toArray, List.set_cons_succ, List.set_cons_zero]; go_big_quiet_on)
    | (go_big_quiet_want; refine quiet_load_cell 3 (.tmp 36) rfl _ rfl _ KG.out isAgg3 ?_; simp only [Act.put, List.setIfInBounds_toArray, List.set_cons_succ, List.set_cons_zero]; go_big_quiet_on)
    | (go_big_quiet_want; go_big_quiet_op; first
        | go_big_quiet_on
        | (refine ⟨_, fun _ _ => rfl, ?_⟩; go_big_quiet_on)
        | (refine ⟨_, KR.out, ?_⟩; go_big_quiet_on)))
  refine wpQuiet_nil ?_
  intro wz hwz
  have HTz := Lib.hid (HCi.out _ hwz)
  clear hwz
  have e1 : wz.cell? ⟨w.heap.size, 1, none⟩ = some (.int .i64 n) := by rw [← hfn]; exact HTz.out.pkt.frm
  go_upto_region 7 with fail
  go_cut [6] (fun v wx => v = .int .i64 n ∧ TakeW w g (s.setCur (max s.cur p.cur)) p wx)
  case first =>
    have c1 := HTz.out.view.cur
    have z1 := HTz.out.view.free 16449
    have e4 := HTz.out.pkt.cur
    have HM1 : Hid (TakeW w g (s.setCur s.cur) p (wz.setCell ⟨g, 16449, none⟩ (.int .u64 s.cur)).drew) := HTz.out.on hgl (HTz.out.view.setCur s.cur).drew (Only.setCell _ _ _ _).drew
    have HM2 : Hid (TakeW w g (s.setCur p.cur) p (wz.setCell ⟨g, 16449, none⟩ (.int .u64 p.cur)).drew) := HTz.out.on hgl (HTz.out.view.setCur p.cur).drew (Only.setCell _ _ _ _).drew
    go_region
    all_goals go_wp2_with fail
    all_goals go_meet
    all_goals first
      | (rw [show max s.cur p.cur = s.cur by omega]; exact ⟨rfl, HM1.out⟩)
      | (rw [show max s.cur p.cur = p.cur by omega]; exact ⟨rfl, HM2.out⟩)
  case rest =>
    obtain ⟨rfl, hcut⟩ := hcut
    have HTc := Lib.hid hcut
    have KB2 : Hid (∀ m, (wc.drewN m).heap[w.heap.size]? = some (.cells PC 29 (0, 0))) := fun m => by rw [← HPC.out]; exact hcut.pkt
    have e1 : wc.drew.cell? ⟨w.heap.size, 3, none⟩ = some (.int .u64 p.ep) := hcut.pkt.ep
    have e2 : wc.drew.cell? ⟨g, 16385 + n, none⟩ = some (.int .u64 (s.ep n)) := hcut.view.ep n hn
    have e1' := hcut.pkt.ep
    have e2' : wc.cell? ⟨g, 16385 + n, none⟩ = some (.int .u64 (s.ep n)) := hcut.view.ep n hn
    clear hcut
    generalize s.ep n = en at *
    go_wp2_with fail
    go_quiet (fail)
    go_upto_if 64 with fail
    go_cut [6] (fun v wx => v = .int .i64 n ∧ TakeW w g (s.took p n) p wx)
    case first =>
      by_cases hge : en ≤ p.ep
      · rw [if_pos hge] at HTk
        go_wp2_with (with_reducible refine wpList_load_row rfl 29 (.tmp 3) rfl w.heap.size rfl 29 PC (0, 0) _ (KB2.out _) Try.underlying29 rfl HS29.out ?_)
        refine (HC1.out _ (HTc.out.below (below_drewN (Below.refl _ _) _)).view).mono ?_
        rintro e w' ⟨rfl, hv, ho⟩
        have HF : Hid (TakeW w g (s.took p n) p w') := by rw [HTk.out]; exact (HTc.out.below (below_drewN (Below.refl _ _) _)).on hgl hv ho
        clear hv ho
        go_wp2_with fail
        go_meet
        exact ⟨rfl, HF.out⟩
      · rw [if_neg hge] at HTk
        go_wp2_with fail
        go_meet
        exact ⟨rfl, by rw [HTk.out]; exact HTc.out.below (below_drewN (Below.refl _ _) _)⟩
    case rest =>
      obtain ⟨rfl, hcut⟩ := hcut
      clear e1 e2 e1' e2' KB2 HTc HTk HC1 HTz HCi HCo K1 K2 K4 KG HC0 KB KR HRt hcd hfb hce hpc hkb
      generalize hS2 : s.took p n = s2 at *
      have HS2 := Lib.hid hS2
      clear hS2
      have HT2 := Lib.hid hcut
      have hme : s2.self < 64 := HOK2.out.self
      have hmi : (0 : Int) ≤ (s2.self : Int) ∧ (s2.self : Int) < 64 := by omega
      have d1 := hcut.pkt.ep
      have d2 := hcut.view.self
      have d3 := hcut.view.ep s2.self hme
      have HSelf : Hid (s2.raised p n = if p.ep = s2.ep s2.self ∧ s2.self < n then s2.raise else s2) := rfl
      clear hcut
      generalize hs2e : s2.self = me at *
      generalize s2.ep me = em at *
      go_upto_region 12 with fail
      go_cut [89] (fun v wx => v = .bool (decide (p.ep = em ∧ me < n)) ∧ TakeW w g s2 p wx)
      case first =>
        have d1' : wc.drew.cell? ⟨w.heap.size, 3, none⟩ = some (.int .u64 p.ep) := d1
        have d2' : wc.drew.cell? ⟨g, 0, none⟩ = some (.int .i64 me) := d2
        have d3' : wc.drew.cell? ⟨g, 16385 + me, none⟩ = some (.int .u64 em) := d3
        by_cases heq : p.ep = em
        · have heb : (p.ep == em) = true := by rw [heq]; exact beq_self_eq_true em
          go_quiet (fail)
          go_wp2_with fail
          go_meet
          exact ⟨by simp [heq], HT2.out.below (below_drewN (Below.refl _ _) _)⟩
        · have heb : (p.ep == em) = false := by rw [beq_eq_false_iff_ne]; exact heq
          go_quiet (fail)
          go_wp2_with fail
          go_meet
          exact ⟨by rw [decide_eq_false (fun hh => heq hh.1)], HT2.out.below (below_drewN (Below.refl _ _) _)⟩
      case rest =>
        obtain ⟨rfl, hcut⟩ := hcut
        have HT3 := Lib.hid hcut
        clear hcut d1 d2 d3 HT2
        go_upto_if 89 with fail
        go_cut [6] (fun v wx => v = .int .i64 n ∧ TakeW w g (s2.raised p n) p wx)
        case first =>
          by_cases hb : p.ep = em ∧ me < n
          · rw [if_pos hb] at HSelf
            have hbd : decide (p.ep = em ∧ me < n) = true := decide_eq_true hb
            go_wp2_with fail
            refine (raise_any HT3.out.view HOK2.out (by omega)).mono ?_
            rintro e w' ⟨rfl, hv, ho⟩
            have HF : Hid (TakeW w g (s2.raised p n) p w') := by rw [HSelf.out]; exact HT3.out.on hgl hv ho
            clear hv ho
            go_wp2_with fail
            go_meet
            exact ⟨rfl, HF.out⟩
          · rw [if_neg hb] at HSelf
            have hbd : decide (p.ep = em ∧ me < n) = false := decide_eq_false hb
            go_wp2_with fail
            go_meet
            exact ⟨rfl, by rw [HSelf.out]; exact HT3.out⟩
        case rest =>
          obtain ⟨rfl, hcut⟩ := hcut
          clear HSelf HT3 HOK2
          generalize hS3 : s2.raised p n = s3 at *
          have HS3 := Lib.hid hS3
          clear hS3
          have HT4 := Lib.hid hcut
          have d0 := hcut.pkt.kind
          have HPong : Hid (s3.pong p = if p.kind = 1 ∨ p.kind = 4 then [s3.tell 2] else []) := rfl
          have HUpd : Hid (s3.upd p = if s3.beaten p = -1 then [] else [⟨3, s3.self, s3.beaten p, s3.ep (s3.beaten p).toNat, s3.cur, wordsOf (s3.owns (s3.beaten p))⟩]) := rfl
          clear hcut
          generalize p.kind = kind at *
          go_upto_region 15 with fail
          go_cut [99] (fun v wx => v = .bool (decide (kind = 1 ∨ kind = 4)) ∧ TakeW w g s3 p wx)
          case first =>
            by_cases hk1 : kind = 1
            · subst hk1
              go_wp2_with fail
              go_meet
              exact ⟨rfl, HT4.out⟩
            · have hk1b : (kind == 1) = false := by rw [beq_eq_false_iff_ne]; exact hk1
              go_wp2_with fail
              go_meet
              exact ⟨congrArg Value.bool (by simp [hk1]; rfl), HT4.out⟩
          case rest =>
            obtain ⟨bb, hbb⟩ : ∃ bb, bb = decide (kind = 1 ∨ kind = 4) := ⟨_, rfl⟩
            rw [← hbb] at hcut
            obtain ⟨rfl, hcut⟩ := hcut
            have HT5 := Lib.hid hcut
            have HBB := Lib.hid hbb
            clear hcut d0 HT4 hbb
            go_upto_if 99 with fail
            go_cut [7] (fun v wx => RowAt wx (w.heap.size + 1) v (s3.pong p) ∧ TakeW w g s3 p wx)
            case first =>
              cases bb with
              | true =>
                have hp1 := HPong.out
                rw [if_pos (of_decide_eq_true HBB.out.symm)] at hp1
                have HPong := Lib.hid hp1
                clear hp1
                go_wp2_with fail
                refine (tell_any HT5.out.view HOK3.out 2).mono ?_
                rintro e w' ⟨rfl, hb5⟩
                have HT6 := Lib.hid (HT5.out.below hb5)
                clear hb5
                generalize s3.tell 2 = tp at *
                go_wp2_with (with_reducible refine wpList_buildSlice40 rfl (.tmp 102) rfl tp rfl ?_; simp only [Act.put, List.setIfInBounds_toArray, List.set_cons_succ, List.set_cons_zero])
                refine wp_append40 (.tmp 100) (.tmp 103) rfl (w.heap.size + 1) (.slice none 0 0) [] rfl (RowAt.nil _ _) (by simp) ?_ w'.heap.size tp rfl (heap_alloc_new w' _) ?_
                · have := HT6.out.size
                  simp
                  omega
                intro v7 w7 hr7 hg7
                simp only [Act.put, List.setIfInBounds_toArray, List.set_cons_succ, List.set_cons_zero]
                have HR7 := Lib.hid hr7
                have HT7 := Lib.hid (grown_take hgl (HT6.out.below ((Below.refl _ _).alloc (Nat.le_refl _) _)) hg7 (fun k hk => by cases hk))
                clear hr7 hg7
                go_wp2_with fail
                go_meet
                exact ⟨by rw [HPong.out]; exact HR7.out, HT7.out⟩
              | false =>
                have hp1 := HPong.out
                rw [if_neg (of_decide_eq_false HBB.out.symm)] at hp1
                have HPong := Lib.hid hp1
                clear hp1
                go_wp2_with fail
                go_meet
                exact ⟨by rw [HPong.out]; exact RowAt.nil _ _, HT5.out⟩
            case rest =>
              obtain ⟨hrow, hcut⟩ := hcut
              have HRow := Lib.hid hrow
              have HT8 := Lib.hid hcut
              have KB8 : Hid (wc.heap[w.heap.size]? = some (.cells PC 29 (0, 0))) := by rw [← HPC.out]; exact hcut.pkt
              have HBt := Lib.hid fun (u : World) (hu : ViewAt u g s3) => beaten_any hu HOK3.out HP.out
              have hbr := HOK3.out.beaten p
              unfold PK.val at HBt
              rw [HPC.out] at HBt
              clear hrow hcut HT5 HPong
              go_wp2_with (with_reducible refine wpList_load_row rfl 29 (.tmp 3) rfl w.heap.size rfl 29 PC (0, 0) _ KB8.out Try.underlying29 rfl HS29.out ?_)
              refine (HBt.out _ HT8.out.view).mono ?_
              rintro e w9 ⟨rfl, hb9⟩
              have HT9 := Lib.hid (HT8.out.below hb9)
              have HR9 := Lib.hid (HRow.out.below hb9)
              clear hb9 HT8 HRow KB8 HBt
              generalize s3.beaten p = ob at *
              by_cases hob : ob = -1
              · have hp1 := HUpd.out
                rw [if_pos hob] at hp1
                have HU2 := Lib.hid hp1
                clear hp1 HUpd
                subst hob
                go_wp2
                go_ret
                rw [HS2.out, HS3.out]
                exact ⟨u7, rfl, by rw [HU2.out, List.append_nil]; exact HR9.out, HT9.out⟩
              · have hp1 := HUpd.out
                rw [if_neg hob] at hp1
                obtain ⟨k, rfl⟩ : ∃ k : Nat, ob = k := ⟨ob.toNat, by omega⟩
                rw [Int.toNat_natCast] at hp1
                have HU2 := Lib.hid hp1
                have hk64 : k < 64 := by omega
                have hki : (0 : Int) ≤ (k : Int) ∧ (k : Int) < 64 := by omega
                have hkb : ((k : Int) == -1) = false := by rw [beq_eq_false_iff_ne]; omega
                have hkb2 : ((k : Int) != -1) = true := by simp
                clear hp1 hob hbr HUpd
                have hT0 : TakeW w g s3 p w9.drew := HT9.out.drew
                have hR0 : RowAt w9.drew (w.heap.size + 1) u7 (s3.pong p) := HR9.out
                have HT0 := Lib.hid hT0
                have HR0 := Lib.hid hR0
                have d0 := hT0.view.self
                have d1 := hT0.view.ep k hk64
                have d2 := hT0.view.cur
                have HCl := Lib.hid fun (u : World) (hu : ViewAt u g s3) => claims_any hu HOK3.out k
                have hlen : Hid ((s3.pong p).length ≤ 1000) := by show _ ≤ _; unfold VS.pong; split <;> simp
                generalize hlp : s3.pong p = lp at *
                have HLP := Lib.hid hlp
                clear hlp
                generalize hq : (⟨3, s3.self, k, s3.ep k, s3.cur, wordsOf (s3.owns k)⟩ : PK) = q at *
                have hfold : Array.foldl (fun cs x => cs.setIfInBounds (5 + x.snd) x.fst) (((((zeroPkt.setIfInBounds 0 (.int .i64 3)).setIfInBounds 1 (.int .i64 (s3.self : Int))).setIfInBounds 2 (.int .i64 (k : Int))).setIfInBounds 3 (.int .u64 (s3.ep k))).setIfInBounds 4 (.int .u64 s3.cur)) (wordsArr (wordsOf (s3.owns k))).zipIdx 0 256 = q.cells.toArray := by
                  have h := fold29b 3 s3.self k (s3.ep k) s3.cur (wordsOf (s3.owns k))
                  rw [hq] at h
                  simpa [wordsArr_size] using h
                have hws := wordsArr_size (wordsOf (s3.owns k))
                have hz := zero29
                have hzs := zeroPkt_size
                have hne : ¬ zeroPkt = #[] := by
                  intro e
                  rw [e] at hzs
                  simp at hzs
                have HBS := Lib.hid fun (u : World) => run_buildSlice40 q u
                unfold PK.val at HBS
                generalize zeroPkt = Z at *
                generalize wordsArr (wordsOf (s3.owns k)) = WW at *
                generalize hqF : q.cells.toArray = F at *
                have HQF := Lib.hid hqF
                clear hT0 hR0 hq hqF
                go_wp2_with fail
                refine wp_region_held_drew (S := (fun u => u.cell? ⟨g, 0, none⟩ = some (.int .i64 s3.self) ∧ u.cell? ⟨g, 16385 + k, none⟩ = some (.int .u64 (s3.ep k)) ∧ u.cell? ⟨g, 16449, none⟩ = some (.int .u64 s3.cur) ∧ TakeW w g s3 p u)) (by kernel_rfl) ⟨d0, d1, d2, HT0.out⟩ (fun hHeld => ?_)
                refine held_take 0 110 rfl (by kernel_rfl) (by kernel_rfl) (by kernel_rfl) rfl rfl (fun _ _ _ h => h) (by assumption) (v := ?_) (fun u hSw => ?_) ?_
                rotate_left
                · (try dsimp only at hSw)
                  go_simp
                  try with_reducible rfl
                simp only [List.setIfInBounds_toArray, List.set_cons_zero, List.set_cons_succ]
                refine held_take 1 111 rfl (by kernel_rfl) (by kernel_rfl) (by kernel_rfl) rfl rfl (fun _ _ _ h => h) (by assumption) (v := ?_) (fun u hSw => ?_) ?_
                rotate_left
                · (try dsimp only at hSw)
                  go_simp
                  try with_reducible rfl
                simp only [List.setIfInBounds_toArray, List.set_cons_zero, List.set_cons_succ]
                refine held_take 2 112 rfl (by kernel_rfl) (by kernel_rfl) (by kernel_rfl) rfl rfl (fun _ _ _ h => h) (by assumption) (v := ?_) (fun u hSw => ?_) ?_
                rotate_left
                · (try dsimp only at hSw)
                  go_simp
                  try with_reducible rfl
                simp only [List.setIfInBounds_toArray, List.set_cons_zero, List.set_cons_succ]
                refine held_take 3 113 rfl (by kernel_rfl) (by kernel_rfl) (by kernel_rfl) rfl rfl (fun _ _ _ h => h) (by assumption) (v := ?_) (fun u hSw => ?_) ?_
                rotate_left
                · (try dsimp only at hSw)
                  go_simp
                  try with_reducible rfl
                simp only [List.setIfInBounds_toArray, List.set_cons_zero, List.set_cons_succ]
                refine held_take 4 114 rfl (by kernel_rfl) (by kernel_rfl) (by kernel_rfl) rfl rfl (fun _ _ _ h => h) (by assumption) (v := ?_) (fun u hSw => ?_) ?_
                rotate_left
                · (try dsimp only at hSw)
                  go_simp
                  try with_reducible rfl
                simp only [List.setIfInBounds_toArray, List.set_cons_zero, List.set_cons_succ]
                refine held_take 5 115 rfl (by kernel_rfl) (by kernel_rfl) (by kernel_rfl) rfl rfl (fun _ _ _ h => h) (by assumption) (v := ?_) (fun u hSw => ?_) ?_
                rotate_left
                · (try dsimp only at hSw)
                  go_simp
                  try with_reducible rfl
                simp only [List.setIfInBounds_toArray, List.set_cons_zero, List.set_cons_succ]
                refine held_take 6 116 rfl (by kernel_rfl) (by kernel_rfl) (by kernel_rfl) rfl rfl (fun _ _ _ h => h) (by assumption) (v := ?_) (fun u hSw => ?_) ?_
                rotate_left
                · (try dsimp only at hSw)
                  go_simp
                  try with_reducible rfl
                simp only [List.setIfInBounds_toArray, List.set_cons_zero, List.set_cons_succ]
                refine held_take 7 117 rfl (by kernel_rfl) (by kernel_rfl) (by kernel_rfl) rfl rfl (fun _ _ _ h => h) (by assumption) (v := ?_) (fun u hSw => ?_) ?_
                rotate_left
                · (try dsimp only at hSw)
                  go_simp
                  try with_reducible rfl
                simp only [List.setIfInBounds_toArray, List.set_cons_zero, List.set_cons_succ]
                refine held_take 8 118 rfl (by kernel_rfl) (by kernel_rfl) (by kernel_rfl) rfl rfl (fun _ _ _ h => h) (by assumption) (v := ?_) (fun u hSw => ?_) ?_
                rotate_left
                · (try dsimp only at hSw)
                  go_simp
                  try with_reducible rfl
                simp only [List.setIfInBounds_toArray, List.set_cons_zero, List.set_cons_succ]
                refine held_take 9 119 rfl (by kernel_rfl) (by kernel_rfl) (by kernel_rfl) rfl rfl (fun _ _ _ h => h) (by assumption) (v := ?_) (fun u hSw => ?_) ?_
                rotate_left
                · (try dsimp only at hSw)
                  go_simp
                  try with_reducible rfl
                simp only [List.setIfInBounds_toArray, List.set_cons_zero, List.set_cons_succ]
                refine held_take 10 120 rfl (by kernel_rfl) (by kernel_rfl) (by kernel_rfl) rfl rfl (fun _ _ _ h => h) (by assumption) (v := ?_) (fun u hSw => ?_) ?_
                rotate_left
                · (try dsimp only at hSw)
                  go_simp
                  try with_reducible rfl
                simp only [List.setIfInBounds_toArray, List.set_cons_zero, List.set_cons_succ]
                refine held_take 11 121 rfl (by kernel_rfl) (by kernel_rfl) (by kernel_rfl) rfl rfl (fun _ _ _ h => h) (by assumption) (v := ?_) (fun u hSw => ?_) ?_
                rotate_left
                · (try dsimp only at hSw)
                  go_simp
                  try with_reducible rfl
                simp only [List.setIfInBounds_toArray, List.set_cons_zero, List.set_cons_succ]
                refine held_take 12 122 rfl (by kernel_rfl) (by kernel_rfl) (by kernel_rfl) rfl rfl (fun _ _ _ h => h) (by assumption) (v := ?_) (fun u hSw => ?_) ?_
                rotate_left
                · (try dsimp only at hSw)
                  go_simp
                  try with_reducible rfl
                simp only [List.setIfInBounds_toArray, List.set_cons_zero, List.set_cons_succ]
                refine held_take 13 123 rfl (by kernel_rfl) (by kernel_rfl) (by kernel_rfl) rfl rfl (fun _ _ _ h => h) (by assumption) (v := ?_) (fun u hSw => ?_) ?_
                rotate_left
                · (try dsimp only at hSw)
                  go_simp
                  try with_reducible rfl
                simp only [List.setIfInBounds_toArray, List.set_cons_zero, List.set_cons_succ]
                refine held_take 14 124 rfl (by kernel_rfl) (by kernel_rfl) (by kernel_rfl) rfl rfl (fun _ _ _ h => h) (by assumption) (v := ?_) (fun u hSw => ?_) ?_
                rotate_left
                · (try dsimp only at hSw)
                  go_simp
                  try with_reducible rfl
                simp only [List.setIfInBounds_toArray, List.set_cons_zero, List.set_cons_succ]
                refine held_take 15 125 rfl (by kernel_rfl) (by kernel_rfl) (by kernel_rfl) rfl rfl (fun _ _ _ h => h) (by assumption) (v := ?_) (fun u hSw => ?_) ?_
                rotate_left
                · (try dsimp only at hSw)
                  go_simp
                  try with_reducible rfl
                simp only [List.setIfInBounds_toArray, List.set_cons_zero, List.set_cons_succ]
                refine held_take 16 126 rfl (by kernel_rfl) (by kernel_rfl) (by kernel_rfl) rfl rfl (fun _ _ _ h => h) (by assumption) (v := ?_) (fun u hSw => ?_) ?_
                rotate_left
                · (try dsimp only at hSw)
                  go_simp
                  try with_reducible rfl
                simp only [List.setIfInBounds_toArray, List.set_cons_zero, List.set_cons_succ]
                refine held_take 17 127 rfl (by kernel_rfl) (by kernel_rfl) (by kernel_rfl) rfl rfl (fun _ _ _ h => h) (by assumption) (v := ?_) (fun u hSw => ?_) ?_
                rotate_left
                · (try dsimp only at hSw)
                  go_simp
                  try with_reducible rfl
                simp only [List.setIfInBounds_toArray, List.set_cons_zero, List.set_cons_succ]
                refine held_do 18 rfl (by kernel_rfl) rfl (fun K hK => ?_)
                go_simp
                go_at_call 16
                refine (HCl.out _ HT0.out.view).mono ?_
                rintro e we ⟨rfl, hb⟩
                have HTe := Lib.hid (HT0.out.below hb)
                have HRe := Lib.hid (HR0.out.below hb)
                clear hb hHeld d0 d1 d2
                have d0 := HTe.out.view.self
                have d1 := HTe.out.view.ep k hk64
                have d2 := HTe.out.view.cur
                refine hK _ _ ⟨d0, d1, d2, HTe.out⟩ ?_
                clear hK
                have hHeld : (fun u => u.cell? ⟨g, 0, none⟩ = some (.int .i64 s3.self) ∧ u.cell? ⟨g, 16385 + k, none⟩ = some (.int .u64 (s3.ep k)) ∧ u.cell? ⟨g, 16449, none⟩ = some (.int .u64 s3.cur) ∧ TakeW w g s3 p u) we := ⟨d0, d1, d2, HTe.out⟩
                refine held_take 19 129 rfl (by kernel_rfl) (by kernel_rfl) (by kernel_rfl) rfl rfl (fun _ _ _ h => h) (by assumption) (v := ?_) (fun u hSw => ?_) ?_
                rotate_left
                · (try dsimp only at hSw)
                  go_simp
                  try with_reducible rfl
                simp only [List.setIfInBounds_toArray, List.set_cons_zero, List.set_cons_succ]
                have hsz1 := HTe.out.size
                have hbA : Below we.heap.size we (we.alloc (.cells F 29)) := (Below.refl _ _).alloc (Nat.le_refl _) _
                have HTf := Lib.hid (HTe.out.below hbA)
                have HRf := Lib.hid (HRe.out.below hbA)
                have HBlk : Hid ((we.alloc (.cells F 29)).heap[we.heap.size]? = some (.cells q.cells.toArray 29 (0, 0))) := by rw [HQF.out]; exact heap_alloc_new we _
                refine held_do 20 rfl (by kernel_rfl) rfl (fun K hK => ?_)
                refine wp_buildSlice40d 130 rfl (.tmp 129) rfl F rfl HBS.out ?_
                refine hK _ _ ⟨HTf.out.view.self, HTf.out.view.ep k hk64, HTf.out.view.cur, HTf.out⟩ ?_
                clear hK hHeld d0 d1 d2 hbA
                simp only [List.setIfInBounds_toArray, List.set_cons_zero, List.set_cons_succ]
                refine held_do 21 rfl (by kernel_rfl) rfl (fun K hK => ?_)
                refine wp_append40d 131 rfl (.tmp 110) (.tmp 130) rfl (w.heap.size + 1) u7 lp rfl HRf.out hlen.out (by simp; omega) we.heap.size q rfl HBlk.out ?_
                intro v7 w7 hr7 hg7
                have HTg := Lib.hid (grown_take hgl HTf.out hg7 (fun j hj => (HRf.out.ownLt j hj).1))
                refine hK _ _ ⟨HTg.out.view.self, HTg.out.view.ep k hk64, HTg.out.view.cur, HTg.out⟩ ?_
                have HR7 := Lib.hid hr7
                clear hK hr7 hg7
                have hHeld : (fun u => u.cell? ⟨g, 0, none⟩ = some (.int .i64 s3.self) ∧ u.cell? ⟨g, 16385 + k, none⟩ = some (.int .u64 (s3.ep k)) ∧ u.cell? ⟨g, 16449, none⟩ = some (.int .u64 s3.cur) ∧ TakeW w g s3 p u) w7 := ⟨HTg.out.view.self, HTg.out.view.ep k hk64, HTg.out.view.cur, HTg.out⟩
                simp only [List.setIfInBounds_toArray, List.set_cons_zero, List.set_cons_succ]
                refine held_take 22 7 rfl (by kernel_rfl) (by kernel_rfl) (by kernel_rfl) rfl rfl (fun _ _ _ h => h) (by assumption) (v := ?_) (fun u hSw => ?_) ?_
                rotate_left
                · (try dsimp only at hSw)
                  go_simp
                  try with_reducible rfl
                simp only [List.setIfInBounds_toArray, List.set_cons_zero, List.set_cons_succ]
                refine wpAnyH_done (by kernel_rfl) ?_ _
                clear hHeld
                go_wp2
                go_ret
                rw [HS2.out, HS3.out]
                exact ⟨v7, rfl, by rw [HU2.out, HLP.out]; exact HR7.out, HTg.out⟩
end Go.Proofs.Ytlccbgjlinlioaa
