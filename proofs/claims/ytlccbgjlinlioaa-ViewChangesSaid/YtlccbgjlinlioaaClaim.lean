/- The walk of claim. -/
import Derived.Test.YtlccbgjlinlioaaTell
namespace Go.Proofs.Ytlccbgjlinlioaa
open Go.RowKit

/-- a claim, first half: the epoch; what it owns and does not claim any more -/
def VS.dropTo (s : VS) (n : Nat) (e : Int) (c : Nat → Nat) (m : Nat) : VS :=
  { self := s.self, own := fun j => if j < m ∧ s.own j = n ∧ hasBit c j = false then -1 else s.own j, ep := fun j => if j = n then e else s.ep j, cur := s.cur }
/-- a claim, whole -/
def VS.claim (s : VS) (n : Nat) (e : Int) (c : Nat → Nat) : VS := (slotsTo c 16384).foldl (fun t k => t.claimSlot n e k) (s.dropTo n e c 16384)

theorem VS.dropTo_zero (s : VS) (n : Nat) (e : Int) (c : Nat → Nat) : s.setEp n e = s.dropTo n e c 0 := by
  unfold VS.setEp VS.dropTo
  congr 1
theorem VS.dropTo_hit (s : VS) (n : Nat) (e : Int) (c : Nat → Nat) (k : Nat) (h : s.own k = n) (hb : hasBit c k = false) : s.dropTo n e c (k + 1) = (s.dropTo n e c k).setOwn k (-1) := by
  unfold VS.setOwn VS.dropTo
  congr 1
  funext j
  by_cases h1 : j = k
  · subst h1
    simp [h, hb]
  · simp only [h1, if_false]
    by_cases h2 : j < k
    · simp [h2, Nat.lt_succ_of_lt h2]
    · have h3 : ¬ j < k + 1 := by omega
      simp [h2, h3]
theorem VS.dropTo_miss (s : VS) (n : Nat) (e : Int) (c : Nat → Nat) (k : Nat) (h : ¬ (s.own k = n ∧ hasBit c k = false)) : s.dropTo n e c (k + 1) = s.dropTo n e c k := by
  unfold VS.dropTo
  congr 1
  funext j
  by_cases h1 : j = k
  · subst h1
    simp [h]
  · by_cases h2 : j < k
    · simp [h2, Nat.lt_succ_of_lt h2]
    · have h3 : ¬ j < k + 1 := by omega
      simp [h2, h3]
theorem VS.dropTo_own (s : VS) (n : Nat) (e : Int) (c : Nat → Nat) (k : Nat) : (s.dropTo n e c k).own k = s.own k := by
  unfold VS.dropTo
  simp

theorem VS.Ok.setEp {s : VS} {M : Int} (h : s.Ok M) (n : Nat) (e : Int) (he : 0 ≤ e ∧ e ≤ s.cur) : (s.setEp n e).Ok M :=
  ⟨h.self, h.own, fun j => by unfold VS.setEp; simp only; split; exact he; exact h.ep j, h.cur⟩
theorem VS.Ok.dropTo {s : VS} {M : Int} (h : s.Ok M) (n : Nat) (e : Int) (c : Nat → Nat) (m : Nat) (he : 0 ≤ e ∧ e ≤ s.cur) : (s.dropTo n e c m).Ok M :=
  ⟨h.self, fun j => by unfold VS.dropTo; simp only; split; omega; exact h.own j, fun j => by unfold VS.dropTo; simp only; split; exact he; exact h.ep j, h.cur⟩
theorem VS.Ok.claimSlot {s : VS} {M : Int} (h : s.Ok M) (n : Nat) (hn : n < 64) (e : Int) (k : Nat) : (s.claimSlot n e k).Ok M := by
  unfold VS.claimSlot
  split
  · exact h.setOwn k n (by omega)
  · exact h
theorem VS.Ok.claimFold {M : Int} (n : Nat) (hn : n < 64) (e : Int) : ∀ (l : List Nat) (t0 : VS), t0.Ok M → (l.foldl (fun t k => t.claimSlot n e k) t0).Ok M
  | [], _, h => h
  | k :: l, _, h => VS.Ok.claimFold n hn e l _ (h.claimSlot n hn e k)
theorem VS.Ok.claim {s : VS} {M : Int} (h : s.Ok M) (n : Nat) (hn : n < 64) (e : Int) (c : Nat → Nat) (he : 0 ≤ e ∧ e ≤ s.cur) : (s.claim n e c).Ok M :=
  VS.Ok.claimFold n hn e _ _ (h.dropTo n e c 16384 he)

/-- a packet that a program can hold -/
structure PK.Ok (p : PK) : Prop where
  ep : 0 ≤ p.ep ∧ p.ep ≤ 18446744073709551615
  cur : 0 ≤ p.cur ∧ p.cur ≤ 18446744073709551615
  lt : ∀ i, p.c i < 18446744073709551616

theorem PK.cell0 (p : PK) : p.cells.toArray[0]? = some (.int .i64 p.kind) := rfl
theorem PK.cell1 (p : PK) : p.cells.toArray[1]? = some (.int .i64 p.frm) := rfl
theorem PK.cell2 (p : PK) : p.cells.toArray[2]? = some (.int .i64 p.of) := rfl
theorem PK.cell3 (p : PK) : p.cells.toArray[3]? = some (.int .u64 p.ep) := rfl
theorem PK.cell4 (p : PK) : p.cells.toArray[4]? = some (.int .u64 p.cur) := rfl
theorem PK.cell5 (p : PK) (i : Nat) (hi : i < 256) : p.cells.toArray[5 + i]? = some (.int .u64 (p.c i)) := by
  rw [List.getElem?_toArray]
  unfold PK.cells
  rw [List.getElem?_append_right (by simp)]
  have e : 5 + i - [Value.int .i64 p.kind, .int .i64 p.frm, .int .i64 p.of, .int .u64 p.ep, .int .u64 p.cur].length = i := by simp
  rw [e]
  exact wordsList_get _ _ hi

/-- block b is a packet -/
def PktAt (w : World) (b : Nat) (p : PK) : Prop := w.heap[b]? = some (.cells p.cells.toArray 29 (0, 0))
theorem PktAt.kind {w : World} {b : Nat} {p : PK} (h : PktAt w b p) : w.cell? ⟨b, 0, none⟩ = some (.int .i64 p.kind) := (cell_of_row _ _ _ _ _ _ h).trans p.cell0
theorem PktAt.frm {w : World} {b : Nat} {p : PK} (h : PktAt w b p) : w.cell? ⟨b, 1, none⟩ = some (.int .i64 p.frm) := (cell_of_row _ _ _ _ _ _ h).trans p.cell1
theorem PktAt.of {w : World} {b : Nat} {p : PK} (h : PktAt w b p) : w.cell? ⟨b, 2, none⟩ = some (.int .i64 p.of) := (cell_of_row _ _ _ _ _ _ h).trans p.cell2
theorem PktAt.ep {w : World} {b : Nat} {p : PK} (h : PktAt w b p) : w.cell? ⟨b, 3, none⟩ = some (.int .u64 p.ep) := (cell_of_row _ _ _ _ _ _ h).trans p.cell3
theorem PktAt.cur {w : World} {b : Nat} {p : PK} (h : PktAt w b p) : w.cell? ⟨b, 4, none⟩ = some (.int .u64 p.cur) := (cell_of_row _ _ _ _ _ _ h).trans p.cell4
theorem PktAt.word {w : World} {b : Nat} {p : PK} (h : PktAt w b p) (i : Nat) (hi : i < 256) : w.cell? ⟨b, 5 + i, none⟩ = some (.int .u64 (p.c i)) := (cell_of_row _ _ _ _ _ _ h).trans (p.cell5 i hi)
theorem PktAt.row {w : World} {b : Nat} {p : PK} (h : PktAt w b p) : w.rangeAt b 5 (wordsList p.c) := fun j v hv => by
  have hj : j < 256 := by
    rw [← wordsList_len p.c]
    exact (List.getElem?_eq_some_iff.1 hv).1
  rw [wordsList_get p.c j hj] at hv
  cases hv
  exact h.word j hj

/-- what stands between two slots of claim's walk -/
structure ClaimJ (w : World) (g : Nat) (s : VS) (n : Nat) (p : PK) (done : List Nat) (u : World) : Prop where
  view : ViewAt u g (done.foldl (fun t k => t.claimSlot n p.ep k) s)
  ptrBox : u.heap[w.heap.size]? = some (.cells #[.pointer (some ⟨g, 0, none⟩)] 30 (0, 0))
  nodeBox : u.heap[w.heap.size + 1]? = some (.cells #[.int .i64 n] 3 (0, 0))
  pkt : PktAt u (w.heap.size + 1 + 1) p
  only : Only w u g

theorem ClaimJ.stable {w : World} {g : Nat} {s : VS} {n : Nat} {p : PK} {done : List Nat} {B : Nat} (hg : g < w.heap.size) (hB : w.heap.size + 1 + 1 < B) {u u' : World} (h : ClaimJ w g s n p done u) (hb : Below B u u') : ClaimJ w g s n p done u' :=
  ⟨h.view.belowN hb (by omega), (hb.block _ (by omega)).trans h.ptrBox, (hb.block _ (by omega)).trans h.nodeBox, (hb.block _ hB).trans h.pkt,
    ⟨hb.os.trans h.only.os, hb.tape.trans h.only.tape, hb.output.trans h.only.output, Nat.le_trans h.only.size hb.size, fun k hk hne => (hb.block k (by omega)).trans (h.only.block k hk hne)⟩⟩

theorem claimj_step {w : World} {g : Nat} {s : VS} {M : Int} (hok : s.Ok M) {n : Nat} (hn : n < 64) {p : PK} (hg : g < w.heap.size) {B : Nat} (hB : w.heap.size + 1 + 1 < B) :
    StepOk 47 #[.pointer (some ⟨w.heap.size, 0, none⟩), .pointer (some ⟨w.heap.size + 1 + 1, 0, none⟩), .pointer (some ⟨w.heap.size + 1, 0, none⟩)] p.c B (ClaimJ w g s n p) := by
  intro done k u hj _ hk hu
  have d3 : u.cell? ⟨w.heap.size, 0, none⟩ = some (.pointer (some ⟨g, 0, none⟩)) := by rw [cell_of_row _ _ _ _ _ _ hj.ptrBox]; rfl
  have d4 : u.cell? ⟨w.heap.size + 1, 0, none⟩ = some (.int .i64 n) := by rw [cell_of_row _ _ _ _ _ _ hj.nodeBox]; rfl
  refine (claimc_any hj.view (VS.Ok.claimFold n hn p.ep done s hok) n k p.ep hn hk d3 hj.pkt.ep d4).mono ?_
  rintro e' u' ⟨rfl, hv, ho⟩
  refine ⟨rfl, ⟨?_, (ho.block _ (by omega) (by simp; omega)).trans hj.ptrBox, (ho.block _ (by omega) (by simp; omega)).trans hj.nodeBox, (ho.block _ (by omega) (by simp; omega)).trans hj.pkt, hj.only.trans ho⟩, ho.keep (by omega)⟩
  rw [List.foldl_append]
  exact hv

set_option maxRecDepth 100000 in
set_option maxHeartbeats 1600000 in
theorem claim_any {w : World} {g : Nat} {s : VS} (h : ViewAt w g s) {M : Int} (hok : s.Ok M) (n : Nat) (hn : n < 64) {p : PK} (hp : p.Ok) (he : p.ep ≤ s.cur) :
    Calls Try.prog 32 #[.pointer (some ⟨g, 0, none⟩), .int .i64 n, p.val] w fun e w' => e = .returned (.tuple #[]) ∧ ViewAt w' g (s.claim n p.ep p.c) ∧ Only w w' g := by
  unfold PK.val
  have hgl := h.lt
  have HOK := Lib.hid (hok.dropTo n p.ep p.c 16384 ⟨hp.ep.1, he⟩)
  have HO := Lib.hid hok
  have HPK := Lib.hid hp
  have HL := Lib.hid (fun k hk => ownRow_get (s.setEp n p.ep) k hk)
  have hll := ownRow_len (s.setEp n p.ep)
  have HR := Lib.hid fun (u : World) (hu : ViewAt u g (s.setEp n p.ep)) => hu.row
  have HS77 : Hid ((Try.prog.info? 77).map (·.size) = some (ownRow (s.setEp n p.ep)).length) := by rw [ownRow_len]; exact size77
  have HS24 : Hid ((Try.prog.info? 24).map (·.size) = some (wordsList p.c).length) := by rw [wordsList_len]; exact size24b
  have HA : Hid (BitsOf (wordsList p.c).toArray p.c) := wordsArr_bits hp.lt
  generalize ownRow (s.setEp n p.ep) = L at *
  have HLA : Hid (∀ k, k < 16384 → L.toArray[k]? = some (.int .i8 (s.own k))) := fun k hk => by rw [List.getElem?_toArray]; exact HL.out k hk
  have hb0 : PktAt (((w.alloc (.cells #[.pointer (some ⟨g, 0, none⟩)] 30)).alloc (.cells #[.int .i64 n] 3)).alloc (.cells p.cells.toArray 29)) (w.heap.size + 1 + 1) p := by
    have := heap_alloc_new ((w.alloc (.cells #[.pointer (some ⟨g, 0, none⟩)] 30)).alloc (.cells #[.int .i64 n] 3)) (.cells p.cells.toArray 29)
    simpa [PktAt] using this
  have hx4 : (((w.alloc (.cells #[.pointer (some ⟨g, 0, none⟩)] 30)).alloc (.cells #[.int .i64 n] 3)).alloc (.cells p.cells.toArray 29)).heap[w.heap.size + 1]? = some (.cells #[.int .i64 n] 3 (0, 0)) := by
    rw [Below.heap_alloc _ _ _ (by simp)]
    have := heap_alloc_new (w.alloc (.cells #[.pointer (some ⟨g, 0, none⟩)] 30)) (.cells #[.int .i64 n] 3)
    simpa using this
  have hx3 : (((w.alloc (.cells #[.pointer (some ⟨g, 0, none⟩)] 30)).alloc (.cells #[.int .i64 n] 3)).alloc (.cells p.cells.toArray 29)).heap[w.heap.size]? = some (.cells #[.pointer (some ⟨g, 0, none⟩)] 30 (0, 0)) := by
    rw [Below.heap_alloc _ _ _ (by simp; omega), Below.heap_alloc _ _ _ (by simp)]
    exact heap_alloc_new w _
  have hbel : Below w.heap.size w (((w.alloc (.cells #[.pointer (some ⟨g, 0, none⟩)] 30)).alloc (.cells #[.int .i64 n] 3)).alloc (.cells p.cells.toArray 29)) := (((Below.refl _ _).alloc (Nat.le_refl _) _).alloc (by simp) _).alloc (by simp; omega) _
  have hv1 : ViewAt (((w.alloc (.cells #[.pointer (some ⟨g, 0, none⟩)] 30)).alloc (.cells #[.int .i64 n] 3)).alloc (.cells p.cells.toArray 29)) g s := h.below hbel
  generalize p.cells.toArray = PC at *
  generalize hwn : ((w.alloc (.cells #[.pointer (some ⟨g, 0, none⟩)] 30)).alloc (.cells #[.int .i64 n] 3)).alloc (.cells PC 29) = wn at *
  have hwsz : wn.heap.size = w.heap.size + 1 + 1 + 1 := by rw [← hwn]; simp
  have HWN := Lib.hid hwn
  have hni : (0 : Int) ≤ (n : Int) ∧ (n : Int) < 64 := by omega
  have HX3 := Lib.hid hx3
  have HX4 := Lib.hid hx4
  have HX5 := Lib.hid hb0
  have HV1 := Lib.hid hv1
  have HBel := Lib.hid hbel
  have d3 : wn.cell? ⟨w.heap.size, 0, none⟩ = some (.pointer (some ⟨g, 0, none⟩)) := by rw [cell_of_row _ _ _ _ _ _ hx3]; rfl
  have d4 : wn.cell? ⟨w.heap.size + 1, 0, none⟩ = some (.int .i64 n) := by rw [cell_of_row _ _ _ _ _ _ hx4]; rfl
  have d5 := hb0.ep
  have d6 := hv1.ep n hn
  have z6 := hv1.free (16385 + n)
  have HV2 := Lib.hid (hv1.setEp n hn p.ep).drew
  have HO2 := Lib.hid (Only.setCell wn g (16385 + n) (.int .u64 p.ep)).drew
  have HDZ := Lib.hid (VS.dropTo_zero s n p.ep p.c)
  clear h hok hp he hx3 hx4 hb0 hbel hv1 hwn
  go_enter Try.func32, Try.ntmps32
  go_wp2_with fail
  rw [HWN.out]
  have HD7 : Hid (((wn.setCell ⟨g, 16385 + n, none⟩ (.int .u64 p.ep)).drew).cell? ⟨w.heap.size, 0, none⟩ = some (.pointer (some ⟨g, 0, none⟩))) := by
    show _ = _
    rw [cell_of_row _ _ _ _ _ _ ((HO2.out.block _ (by omega) (by simp; omega)).trans HX3.out)]; rfl
  have HD4 : Hid (((wn.setCell ⟨g, 16385 + n, none⟩ (.int .u64 p.ep)).drew).cell? ⟨w.heap.size + 1, 0, none⟩ = some (.int .i64 n)) := by
    show _ = _
    rw [cell_of_row _ _ _ _ _ _ ((HO2.out.block _ (by omega) (by simp; omega)).trans HX4.out)]; rfl
  have HD5 : Hid (PktAt ((wn.setCell ⟨g, 16385 + n, none⟩ (.int .u64 p.ep)).drew) (w.heap.size + 1 + 1) p) := (HO2.out.block _ (by omega) (by simp; omega)).trans HX5.out
  have d6' : wn.drew.cell? ⟨g, 16385 + n, none⟩ = some (.int .u64 (s.ep n)) := d6
  have z6' : wn.drew.frozen? ⟨g, 16385 + n, none⟩ = false := z6
  clear d6 z6
  go_region_held3 (fun u => u.cell? ⟨w.heap.size, 0, none⟩ = some (.pointer (some ⟨g, 0, none⟩)) ∧ u.cell? ⟨w.heap.size + 1, 0, none⟩ = some (.int .i64 n) ∧ u.cell? ⟨w.heap.size + 1 + 1, 3, none⟩ = some (.int .u64 p.ep)) (first | exact ⟨d3, d4, d5⟩ | exact ⟨HD7.out, HD4.out, HD5.out.ep⟩) (fail)
  clear d6' z6' d3 d4 d5
  have hv0 := HV2.out
  have ho0 := HO2.out
  have d7 := HD7.out
  have HD4' := HD4
  generalize hwq : (wn.setCell ⟨g, 16385 + n, none⟩ (.int .u64 p.ep)).drew = wq at *
  have HRg := Lib.hid (HR.out _ hv0)
  clear hwq hv0 ho0
  go_wp2_with (with_reducible refine wpList_load_mid rfl 77 (.tmp 17) rfl g 1 rfl L _ HRg.out Try.underlying77 rfl HS77.out ?_)
  go_loopw [19] (fun i wr => ∃ k : Nat, k ≤ 16384 ∧ i = .int .i64 k ∧ ViewAt wr g (s.dropTo n p.ep p.c k) ∧ Only wq wr g) (fun i _ => 16384 - (intOf i).toNat)
  case atStart => exact ⟨0, Nat.zero_le _, rfl, by rw [← HDZ.out]; exact HV2.out, Only.refl _ _⟩
  case round =>
    obtain ⟨k, hk, rfl, hv, ho⟩ := hrel
    have HV := Lib.hid hv
    have HOr := Lib.hid ho
    have hqs := HO2.out.size
    have HY3 := Lib.hid ((ho.block w.heap.size (by omega) (by simp; omega)).trans ((HO2.out.block _ (by omega) (by simp; omega)).trans HX3.out))
    have HY4 := Lib.hid ((ho.block (w.heap.size + 1) (by omega) (by simp; omega)).trans ((HO2.out.block _ (by omega) (by simp; omega)).trans HX4.out))
    have HY5 : Hid (PktAt wr (w.heap.size + 1 + 1) p) := (ho.block (w.heap.size + 1 + 1) (by omega) (by simp; omega)).trans ((HO2.out.block _ (by omega) (by simp; omega)).trans HX5.out)
    have f3 : wr.cell? ⟨w.heap.size, 0, none⟩ = some (.pointer (some ⟨g, 0, none⟩)) := by rw [cell_of_row _ _ _ _ _ _ HY3.out]; rfl
    have f4 : wr.cell? ⟨w.heap.size + 1, 0, none⟩ = some (.int .i64 n) := by rw [cell_of_row _ _ _ _ _ _ HY4.out]; rfl
    clear d7
    by_cases hlt : k < 16384
    · obtain ⟨q, hq⟩ : ∃ q, q = k / 64 := ⟨_, rfl⟩
      obtain ⟨r, hr⟩ : ∃ r, r = k % 64 := ⟨_, rfl⟩
      have hqi : ((k : Int).tdiv 64) = q := by rw [hq]; exact tdiv64 k
      have hri : ((k : Int).tmod 64) = r := by rw [hr]; exact tmod64 k
      have hq2 : (0 : Int) ≤ q ∧ (q : Int) < 256 := by omega
      have hr2 : r < 64 := by omega
      have hki : (0 : Int) ≤ (k : Int) ∧ (k : Int) < 16384 := by omega
      have e1 := index77 _ k _ hlt (HLA.out k hlt)
      have hoR := HO.out.own k
      have c5 := HY5.out.word q (by omega)
      have hxl := HPK.out.lt q
      have hbz := bit_zero (p.c q) r hxl
      have HH : Hid (hasBit p.c k = (p.c q).testBit r) := by unfold hasBit; rw [hq, hr]; exact rfl
      have hvo := hv.own k hlt
      have z1 := hv.free (1 + k)
      rw [VS.dropTo_own] at hvo
      have HHit := Lib.hid (s.dropTo_hit n p.ep p.c k)
      have HMiss := Lib.hid (s.dropTo_miss n p.ep p.c k)
      have HS1 := Lib.hid (hv.setOwn k hlt (-1))
      generalize s.own k = o at *
      generalize p.c q = x at *
      clear hv ho hq hr
      by_cases hon : o = n
      · subst hon
        cases hbt : x.testBit r with
        | false =>
          rw [hbt] at hbz HH
          have hE := Lib.hid (HHit.out rfl HH.out)
          go_wp2
          go_roundw
          case rel => exact ⟨k + 1, by omega, by go_num, by rw [hE.out]; exact HS1.out, HOr.out.trans (Only.setCell _ _ _ _)⟩
          case measure => simp [intOf]; omega
        | true =>
          rw [hbt] at hbz HH
          have hE := Lib.hid (HMiss.out (by rw [HH.out]; simp))
          go_wp2
          go_roundw
          case rel => exact ⟨k + 1, by omega, by go_num, by rw [hE.out]; exact HV.out, HOr.out⟩
          case measure => simp [intOf]; omega
      · have hE := Lib.hid (HMiss.out (fun h => hon h.1))
        have hb1 : (o == (n : Int)) = false := by rw [beq_eq_false_iff_ne]; exact hon
        go_wp2
        go_roundw
        case rel => exact ⟨k + 1, by omega, by go_num, by rw [hE.out]; exact HV.out, HOr.out⟩
        case measure => simp [intOf]; omega
    · have hk2 : k = 16384 := by omega
      subst hk2
      have hmf : ∀ (fn : Fn) (first cap : Array Value) (u : World), (Instr.makeFunc fn first cap).run Try.prog u = .ok (.func fn first cap) u := fun _ _ _ _ => rfl
      have HRw := Lib.hid HY5.out.row
      clear hv ho
      go_wp2_with (with_reducible refine wpList_load_mid rfl 24 (.tmp 45) rfl (w.heap.size + 1 + 1) 5 rfl (wordsList p.c) _ HRw.out Try.underlying24 rfl HS24.out ?_)
      have hws : w.heap.size + 1 + 1 < wr.heap.size := by have := HO2.out.size; have := HOr.out.size; omega
      refine (each3_any 47 (fun a u => Try.call47 a u) _ _ _ HA.out (ClaimJ w g (s.dropTo n p.ep p.c 16384) n p) wr (fun done u u' h hb => h.stable hgl hws hb) ⟨HV.out, HY3.out, HY4.out, HY5.out, (below_only HBel.out g).trans (HO2.out.trans HOr.out)⟩ (claimj_step HOK.out hn hgl hws)).mono ?_
      rintro e w' ⟨rfl, hj, _⟩
      have HJ := Lib.hid hj
      clear hj
      go_wp2
      go_end0
      exact ⟨rfl, HJ.out.view, HJ.out.only⟩
end Go.Proofs.Ytlccbgjlinlioaa
