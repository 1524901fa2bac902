/- ViewTwice: the walk of the law. -/
import Derived.Test.YtlccbgjlinlioaaOne
import Derived.Test.YtlccbgjlinlioaaPlain2
namespace Go.Proofs.Ytlccbgjlinlioaa
open Go.RowKit

theorem RowAt.onlyNe {u u' : World} {B b : Nat} {v : Value} {l : List PK} (h : RowAt u B v l) (ho : Only u u' b) (hne : ∀ k, v.ownBlock = some k → k ≠ b) : RowAt u' B v l := by
  have hl := h.ownLt
  refine ⟨h.1, ?_⟩
  rcases h.2 with hn | ⟨g, cap, cur, rfl, hg, hh, rest⟩
  · exact .inl hn
  · exact .inr ⟨g, cap, cur, rfl, hg, (ho.block g (hl g rfl).2 (by simpa using hne g rfl)).trans hh, rest⟩

/-- where the law stands: the view, its clone, the two rows of packets -/
structure TwS (w : World) (g gc : Nat) (vl vm : Value) (l : List PK) (t : VS) (u : World) : Prop where
  view : ViewAt u g t
  clone : ViewAt u gc t
  rl : RowAt u 0 vl l
  rm : RowAt u 0 vm l
  bel : Below w.heap.size w u
theorem TwS.belowW {w : World} {g gc : Nat} {vl vm : Value} {l : List PK} {t : VS} {u u' : World} (h : TwS w g gc vl vm l t u) (hb : Below u.heap.size u u') : TwS w g gc vl vm l t u' :=
  ⟨h.view.below hb, h.clone.below hb, h.rl.below hb, h.rm.below hb, h.bel.trans (hb.mono h.bel.size)⟩

theorem takeL_len (s : VS) (p : PK) : (s.takeL p).length < 1000 := doesL_len s (OPV.one p)

set_option maxRecDepth 100000 in
set_option maxHeartbeats 1600000 in
theorem twice_walk {w : World} {q : BG} (hq : q.Ok) {v : Value} {os : List OPV} (hos : OpsIn w v os) {p : PK} (hp : p.Ok) :
    Calls Try.prog 3 #[q.val, v, p.val] w fun e w' => e = .returned (.bool true) ∧ Below w.heap.size w w' := by
  have hbel : Below w.heap.size w ((w.alloc (.cells q.cells.toArray 26)).alloc (.cells p.cells.toArray 29)) := below2 _ _ _
  have hb0 : ((w.alloc (.cells q.cells.toArray 26)).alloc (.cells p.cells.toArray 29)).heap[w.heap.size]? = some (.cells q.cells.toArray 26 (0, 0)) := by
    rw [Below.heap_alloc _ _ _ (by simp)]
    exact heap_alloc_new w _
  have hb1 : ((w.alloc (.cells q.cells.toArray 26)).alloc (.cells p.cells.toArray 29)).heap[w.heap.size + 1]? = some (.cells p.cells.toArray 29 (0, 0)) := by
    have := heap_alloc_new (w.alloc (.cells q.cells.toArray 26)) (.cells p.cells.toArray 29)
    simpa using this
  have hsz : ((w.alloc (.cells q.cells.toArray 26)).alloc (.cells p.cells.toArray 29)).heap.size = w.heap.size + 2 := by simp
  have HBg := Lib.hid fun (u : World) (hu : OpsIn u v os) => begun_any hq hu
  have HOs := Lib.hid (hos.belowN hbel)
  have HS26 : Hid ((Try.prog.info? 26).map (·.size) = some q.cells.toArray.size) := by rw [List.size_toArray, BG.cells_len]; exact size26
  have HS29 : Hid ((Try.prog.info? 29).map (·.size) = some p.cells.toArray.size) := by rw [List.size_toArray, PK.cells_len]; exact size29
  have HAl := Lib.hid alive_any
  have HBd := Lib.hid (build38 p)
  have HBs := Lib.hid fun (u : World) => run_buildSlice27 (OPV.one p) u
  have HOne := Lib.hid fun (u : World) => few_any (one_in u p hp)
  have HPOk := Lib.hid hp
  have HLen := Lib.hid fun (s : VS) => takeL_len s p
  unfold BG.val PK.val at *
  generalize hw1 : (w.alloc (.cells q.cells.toArray 26)).alloc (.cells p.cells.toArray 29) = w1 at *
  have HW1 := Lib.hid hw1
  have HB0 := Lib.hid hb0
  have HBel := Lib.hid hbel
  have HTk := Lib.hid fun (u : World) (b : Nat) (s : VS) (hu : ViewAt u b s) (hok : s.Ok (4611686018427387904 + 40 + 1)) => take_any hu hok (by omega) (by omega) hp
  have HPk : Hid (∀ u, Below w1.heap.size w1 u → u.heap[w.heap.size + 1]? = some (.cells p.cells.toArray 29 (0, 0))) := fun u hu => (hu.block _ (by omega)).trans hb1
  unfold PK.val at HTk
  generalize q.cells.toArray = QC at *
  generalize p.cells.toArray = PC at *
  generalize (OPV.one p).cells.toArray = F at *
  clear hw1 hb0 hb1 hbel hos hq hp
  go_enter Try.func3, Try.ntmps3
  go_upto_region 1 with fail
  rw [HW1.out]
  go_wp2_with (with_reducible refine wpList_load_row rfl 26 (.tmp 3) rfl w.heap.size rfl 26 QC (0, 0) _ HB0.out Try.underlying26 rfl HS26.out ?_)
  refine (HBg.out _ HOs.out).mono ?_
  rintro e w2 ⟨hb2, ⟨me, ao, n2, cap, cur, rfl⟩ | ⟨g, gr, cap, B, s, rfl, hv, hgl, hgB, hrn, hok⟩⟩
  · have HB2 := Lib.hid (laws_nil HBel.out hb2)
    clear hb2
    go_wp2_with fail
    refine (HAl.out _).mono ?_
    rintro e w3 ⟨rfl, hb3⟩
    have HB3 := Lib.hid ((HB2.out _).trans (hb3.mono (HB2.out _).size))
    clear hb3
    go_wp2
    go_ret
    exact ⟨rfl, HB3.out⟩
  · have HS := Lib.hid (laws_start (Below.refl w1.heap.size w1) hb2 hv hrn)
    have HOk := Lib.hid hok
    have HGw := Lib.hid hgl
    unfold refVal
    clear hb2 hv hrn hok hgl hgB
    go_upto_region 2 with fail
    generalize w2.alloc (.cells #[.int .i64 (s.self : Int), .slice (some ⟨gr, 0, none⟩) 64 cap, .int .u64 s.cur] 33) = w3 at *
    generalize w2.heap.size = r at *
    have HPk3 := Lib.hid (HPk.out _ HS.out.bel)
    go_wp2_with (first
      | (refine wpList_exec rfl _ (exec_load_row 29 (.tmp 5) rfl (w.heap.size + 1) rfl 29 PC (0, 0) _ HPk3.out Try.underlying29 rfl HS29.out) ?_; simp only [Act.put, List.setIfInBounds_toArray, List.set_cons_succ, List.set_cons_zero])
      | (refine wpList_exec rfl _ (exec_build 38 #[(4, .tmp 28)] rfl [(4, .agg PC)] (by simp [Act.eval]) F HBd.out) ?_; simp only [Act.put, List.setIfInBounds_toArray, List.set_cons_succ, List.set_cons_zero])
      | (refine wpList_buildSlice27 rfl (.tmp 29) rfl F rfl HBs.out ?_; simp only [Act.put, List.setIfInBounds_toArray, List.set_cons_succ, List.set_cons_zero]))
    refine (HOne.out _).mono ?_
    rintro e w4 ⟨b, rfl, _, hb4⟩
    have hA : Below w3.heap.size w3 (w3.alloc (.cells F 38)) := (Below.refl _ _).alloc (Nat.le_refl _) _
    have HS4 := Lib.hid ((HS.out.belowW hA).belowW hb4)
    clear hb4 hA HS HPk3 HOne HBd HBs HBg HOs
    cases b with
    | false =>
      go_wp2_with fail
      refine (HAl.out _).mono ?_
      rintro e w5 ⟨rfl, hb5⟩
      have HB5 := Lib.hid (HBel.out.trans ((HS4.out.belowW hb5).bel.mono HBel.out.size))
      clear hb5
      go_wp2
      go_ret
      exact ⟨rfl, HB5.out⟩
    | true =>
      have HPk4 := Lib.hid (HPk.out _ HS4.out.bel)
      have HOk1 := Lib.hid (HOk.out.up (show (4611686018427387904 : Int) + 40 ≤ 4611686018427387904 + 40 + 1 by omega))
      have HAg := Lib.hid (takeD_again HOk.out (by omega) HPOk.out)
      have HOk2 := Lib.hid (HOk.out.takeD (by omega) HPOk.out)
      have HL := Lib.hid (HLen.out s)
      go_wp2_with (with_reducible refine wpList_load_row rfl 29 (.tmp 5) rfl (w.heap.size + 1) rfl 29 PC (0, 0) _ HPk4.out Try.underlying29 rfl HS29.out ?_)
      refine (HTk.out _ _ _ HS4.out.view HOk1.out).mono ?_
      rintro e w5 ⟨vl, rfl, hrow5, hv5, ho5⟩
      have HB5 := Lib.hid (ho5.new HS4.out.bel HGw.out HS4.out.bel.size)
      have HV5 := Lib.hid hv5
      have HR5 := Lib.hid hrow5
      have hgl5 := hv5.lt
      clear hrow5 hv5 ho5
      go_wp2_with fail
      refine (clone_any HV5.out).mono ?_
      rintro e w6 ⟨rfl, hvc, hb6, _⟩
      have hne : ∀ k, vl.ownBlock = some k → k ≠ w5.heap.size := fun k hk => by have := (HR5.out.ownLt k hk).2; omega
      have HNe := Lib.hid hne
      have HB6 := Lib.hid (HB5.out.trans (hb6.mono HB5.out.size))
      have HV6 := Lib.hid (HV5.out.below hb6)
      have HR6 := Lib.hid (HR5.out.below hb6)
      have HC6 := Lib.hid hvc
      have HGc := Lib.hid HB5.out.size
      generalize w5.heap.size = gc at *
      have HPk6 := Lib.hid (HPk.out _ HB6.out)
      clear hvc hb6 hne HR5 HV5 HB5
      go_wp2_with (with_reducible refine wpList_load_row rfl 29 (.tmp 5) rfl (w.heap.size + 1) rfl 29 PC (0, 0) _ HPk6.out Try.underlying29 rfl HS29.out ?_)
      refine (HTk.out _ _ _ HC6.out HOk2.out).mono ?_
      rintro e w7 ⟨vm, rfl, hrow7, hv7, ho7⟩
      have HB7 := Lib.hid (ho7.new HB6.out HGc.out HB6.out.size)
      rw [HAg.out.1] at hv7
      rw [HAg.out.2] at hrow7
      have HT7 : Hid (TwS w1 g gc vl vm (s.takeL p) (s.takeD p) w7) := ⟨HV6.out.only ho7 (by omega), hv7, (HR6.out.onlyNe ho7 HNe.out).mono (Nat.zero_le _), hrow7.mono (Nat.zero_le _), HB7.out⟩
      clear hrow7 hv7 ho7 HV6 HR6 HC6 HB6 HB7 HTk HPk HPk4 HPk6 HAg HNe HS4
      generalize s.takeD p = t at *
      generalize s.takeL p = L at *
      go_wp2_with fail
      go_loopw [48] (fun c wx => ∃ m : Nat, m ≤ 64 ∧ c = .int .i64 m ∧ Hid (TwS w1 g gc vl vm L t wx)) (fun c _ => 64 - (intOf c).toNat)
      case atStart => exact ⟨0, by omega, rfl, HT7⟩
      case round =>
        obtain ⟨m, hm, rfl, HTx⟩ := hrel
        by_cases hm2 : m < 64
        · have hmi : (0 : Int) ≤ (m : Int) ∧ (m : Int) < 64 := by omega
          have HE1 := Lib.hid (epoch_any HTx.out.view (m : Int))
          have HE2 := Lib.hid (epoch_any HTx.out.clone (m : Int))
          have HC1 := Lib.hid fun (u : World) (hu : ViewAt u g t) => claims_any hu HOk2.out (m : Int)
          have HC2 := Lib.hid fun (u : World) (hu : ViewAt u gc t) => claims_any hu HOk2.out (m : Int)
          have KN : Hid (∀ (u : World) (o : Oper) (a : Act) (x y : Operand) (t' : TypeId), o.op = .binOp .neq 24 x y t' → a.eval x = .agg (wordsArr (wordsOf (t.owns m))) → a.eval y = .agg (wordsArr (wordsOf (t.owns m))) → (execOp a.eval o).run Try.prog u = .ok (.value (.bool false)) u) := fun u o a x y t' ho hx hy => exec_neq24 ho _ hx hy
          generalize wordsArr (wordsOf (t.owns m)) = WA at *
          generalize t.epoch m = ep at *
          go_wp2_with fail
          refine HE1.out.mono ?_
          rintro e w' ⟨rfl, rfl⟩
          go_wp2_with fail
          refine HE2.out.mono ?_
          rintro e w' ⟨rfl, rfl⟩
          go_wp2_with fail
          refine (HC1.out _ HTx.out.view).mono ?_
          rintro e w8 ⟨rfl, hb8⟩
          have HT8 := Lib.hid (HTx.out.belowW hb8)
          clear hb8
          go_wp2_with fail
          refine (HC2.out _ HT8.out.clone).mono ?_
          rintro e w9 ⟨rfl, hb9⟩
          have HT9 := Lib.hid (HT8.out.belowW hb9)
          clear hb9
          go_wp2_with (refine wpList_exec rfl _ (KN.out _ _ _ _ _ _ rfl rfl rfl) ?_; simp only [Act.put, List.setIfInBounds_toArray, List.set_cons_succ, List.set_cons_zero])
          go_roundw
          case rel => exact ⟨m + 1, by omega, by go_num, HT9⟩
          case measure => simp [intOf]; omega
        · have hm3 : m = 64 := by omega
          subst hm3
          go_wp2_with fail
          refine (HAl.out _).mono ?_
          rintro e w8 ⟨rfl, hb8⟩
          have HT8 := Lib.hid (HTx.out.belowW hb8)
          clear hb8
          go_wp2_with fail
          refine (same_any HT8.out.rl HT8.out.rm HL.out).mono ?_
          rintro e w9 ⟨rfl, hb9⟩
          have HT9 := Lib.hid (HT8.out.belowW hb9)
          clear hb9
          have HCu1 := Lib.hid (current_any HT9.out.view)
          have HCu2 := Lib.hid (current_any HT9.out.clone)
          have HBe := Lib.hid (HBel.out.trans (HT9.out.bel.mono HBel.out.size))
          go_wp2_with fail
          refine HCu1.out.mono ?_
          rintro e w' ⟨rfl, rfl⟩
          go_wp2_with fail
          refine HCu2.out.mono ?_
          rintro e w' ⟨rfl, rfl⟩
          go_wp2
          go_ret
          exact ⟨rfl, HBe.out⟩
end Go.Proofs.Ytlccbgjlinlioaa
