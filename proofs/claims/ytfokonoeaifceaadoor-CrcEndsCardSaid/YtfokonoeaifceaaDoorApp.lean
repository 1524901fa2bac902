/- What the laws of the sum make: bytes appended onto a row of the call's own. -/
import Derived.Test.YtfokonoeaifceaaDoorLaws
import Derived.Laws.AppendOwnNone
namespace Go.Proofs.YtfokonoeaifceaaDoor
open Go.RowKit CrcM

theorem Tryd.info5 : (Tryd.prog.info? 5).map (fun i => (i.zero, i.size, i.bytes)) = some (some (.int .u8 0), 1, 1) := by kernel_rfl

/-- An operation whose guard says yes. -/
theorem wpList_wanted {P : Program} {ops : Array Oper} {rest : List Oper} {o : Oper} {a : Act} {w : World} {Q : Exit → Act → World → Prop} (hw : Region.wanted o (yielded ops a.tmps) = true)
    (h : ∀ K : Act → World → Prop, (∀ a w, wpList P ops Q rest a w → K a w) → o.wp P a w K Q) : wpList P ops Q (o :: rest) a w :=
  wpList_step fun K hK => by rw [if_pos hw]; exact h K hK

/-- The bytes of a row. -/
def byteVals (l : List Int) : List Value := l.map (Value.int .u8)

theorem bytesAt_own {w : World} {B : Nat} {v : Value} {l : List Int} (h : w.ownsRow B 5 1 v l.length (byteVals l)) : BytesAt w v l := by
  rcases h.2 with ⟨rfl, h0⟩ | ⟨g, cap, cur, rfl, hg, hh, hn, hcap, hsz, htake⟩
  · exact .inl ⟨List.length_eq_zero_iff.1 h0, .inl rfl⟩
  · refine .inr ⟨g, 0, cap, rfl, fun i hi => ?_⟩
    rw [Nat.zero_add, h.cellAt i (by omega)]
    simp [byteVals, List.getElem?_eq_getElem hi]

theorem wpList_append_bytes {ops : Array Oper} {rest : List Oper} {o : Oper} {a : Act} {w : World} {Q : Exit → Act → World → Prop} (hgd : Region.wanted o (yielded ops a.tmps) = true) (s x : Operand)
    (ho : o.op = .call { callee := .builtin .append, args := #[s, x], argTypes := #[22, 22] })
    (B : Nat) (v : Value) (n : Nat) (xs : List Value) (hs : a.eval s = v) (hown : w.ownsRow B 5 1 v n xs)
    (sv : Value) (l : List Int) (hx : a.eval x = sv) (hsv : BytesAt w sv l) (hsum : n + l.length ≤ 140737488355328) (hbase : B ≤ w.heap.size)
    (h : ∀ v' w', w'.ownsRow B 5 1 v' (n + l.length) (xs ++ byteVals l) → Below B w w' → wpList Tryd.prog ops Q rest (a.put o.dst v') w') : wpList Tryd.prog ops Q (o :: rest) a w := by
  obtain ⟨i0, hi, hz0, hz1, hz2⟩ := info_parts Tryd.info5
  refine wpList_wanted hgd fun K hK => ?_
  have hgrow : ∀ w', w.grownBy w' v.ownBlock → Below B w w' := by
    intro w' hg
    refine (Below.refl B w).grown hg hbase ?_
    intro k hk
    rcases hown.2 with ⟨rfl, _⟩ | ⟨g, cap, cur, rfl, hgB, _⟩
    · simp [Value.ownBlock] at hk
    · simp [Value.ownBlock] at hk; omega
  rcases hsv with ⟨rfl, rfl | ⟨ad, cap, rfl⟩⟩ | ⟨b, off, cap, rfl, hc⟩
  · have hrun := run_append_owned_none (P := Tryd.prog) (w := w) B 22 o.type 5 i0 1 Tryd.underlying22 hi v n xs hown
    unfold Oper.wp
    simp only [execOp, ho, resolve, invoke, builtin, Sem.run_bind, Sem.run_pure, Result.andThen_ok, List.map_toArray, List.map_cons, List.map_nil, hs, hx, hrun]
    exact hK _ _ (h v w (by simpa [byteVals] using hown) (Below.refl _ _))
  · refine wp_append_own w s x 22 ho B 5 i0 (.int .u8 0) 1 1 Tryd.underlying22 hi hz0 hz1 hz2 rfl (by decide) v n xs hs hown ad 0 cap [] hx rfl (fun j u hj => by simp at hj) (fun u hu => by simp at hu)
      (by unfold maxLen; omega) (by simp at hsum; omega) hbase fun v' w' h1 h2 _ => hK _ _ (h v' w' (by simpa [byteVals] using h1) (hgrow w' h2))
  · refine wp_append_own w s x 22 ho B 5 i0 (.int .u8 0) 1 1 Tryd.underlying22 hi hz0 hz1 hz2 rfl (by decide) v n xs hs hown ⟨b, off, none⟩ l.length cap (byteVals l) hx (by simp [byteVals]) (fun j u hj => ?_) (fun u hu => ?_)
      (by unfold maxLen; omega) (by omega) hbase fun v' w' h1 h2 _ => hK _ _ (h v' w' h1 (hgrow w' h2))
    · have hj' : j < l.length := by have := (List.getElem?_eq_some_iff.1 hj).1; simpa [byteVals] using this
      rw [Go.WideShapes.add_plain, hc j hj', ← hj]
      simp [byteVals, List.getElem?_eq_getElem hj']
    · simp only [byteVals, List.mem_map] at hu
      obtain ⟨z, _, rfl⟩ := hu
      rfl

/-- what is held is held behind new blocks -/
theorem BytesAt.below {w w' : World} {v : Value} {l : List Int} (h : BytesAt w v l) (hb : Below w.heap.size w w') : BytesAt w' v l := by
  rcases h with h | ⟨b, off, cap, rfl, hc⟩
  · exact .inl h
  · refine .inr ⟨b, off, cap, rfl, fun i hi => ?_⟩
    rw [hb.cell (p := ⟨b, off + i, none⟩) (block_lt_of_cell (hc i hi))]
    exact hc i hi

/-- []byte{} -/
theorem own_empty (w : World) (B : Nat) (hB : B ≤ w.heap.size) : (w.alloc (.cells #[] 5)).ownsRow B 5 1 (.slice (some ⟨w.heap.size, 0, none⟩) 0 0) 0 (byteVals []) :=
  World.ownsRow_lit w #[] 0 hB (by decide) rfl

set_option maxHeartbeats 400000 in
theorem mores_walk (v : Value) (l : List Int) (c : BitVec 16) (w : World) (hv : ∀ w', Below w.heap.size w w' → BytesAt w' v l) (hlen : l.length ≤ 140737488355328) (hb : ∀ x ∈ l, isByte x) (ht : TabAt w) (hB : 0 < w.heap.size) :
    Calls Tryd.prog 4 #[.int .u16 c.toNat, v] w fun e w' => e = .returned (.bool true) ∧ Below w.heap.size w w' := by
  have HA := Lib.hid (alive_true w ht hB)
  have H1 := Lib.hid (fun (w' : World) (h : Below w.heap.size w w') => more_bytes v l c w' (hv w' h) hlen hb (ht.below h hB))
  have H2 := Lib.hid (fun (w' : World) (h : Below w.heap.size w w') => rmore_bytes v l c w' (hv w' h) hlen hb)
  clear hv hlen hb ht
  go_enter Tryd.func4, Tryd.ntmps4
  go_wp2_with fail
  refine HA.out.mono ?_
  rintro e w1 ⟨rfl, hb1⟩
  have HB1 := Lib.hid hb1; clear hb1
  go_wp2_with fail
  refine (H1.out w1 HB1.out).mono ?_
  rintro e w' ⟨rfl, rfl⟩
  go_wp2_with fail
  refine (H2.out w1 HB1.out).mono ?_
  rintro e w' ⟨rfl, rfl⟩
  go_wp2
  go_ret
  exact ⟨rfl, HB1.out⟩

set_option maxHeartbeats 400000 in
theorem joins_walk (va vb : Value) (la lb : List Int) (w : World) (hva : ∀ w', Below w.heap.size w w' → BytesAt w' va la) (hvb : ∀ w', Below w.heap.size w w' → BytesAt w' vb lb)
    (hlen : la.length + lb.length ≤ 140737488355328) (hba : ∀ x ∈ la, isByte x) (hbb : ∀ x ∈ lb, isByte x) (ht : TabAt w) (hB : 0 < w.heap.size) :
    Calls Tryd.prog 5 #[va, vb] w fun e w' => e = .returned (.bool true) ∧ Below w.heap.size w w' := by
  have HT := Lib.hid ht
  have HVA := Lib.hid hva
  have HVB := Lib.hid hvb
  have HBA := Lib.hid hba
  have HBB := Lib.hid hbb
  clear ht hva hvb hba hbb
  have hw0 : Below w.heap.size w (w.alloc (.cells #[] 5)) := (Below.refl _ _).alloc (Nat.le_refl _) _
  have HW0 := Lib.hid hw0; clear hw0
  have HO := Lib.hid (own_empty w w.heap.size (Nat.le_refl _))
  go_enter Tryd.func5, Tryd.ntmps5
  go_wp2_with (first
    | (at_builtin; refine wpList_append_bytes rfl (.tmp 6) (.tmp 7) rfl w.heap.size _ 0 _ rfl HO.out va la rfl (HVA.out _ HW0.out) (by omega) (by simp) ?_; intro v1 w1 hown1 hbel1; have HO1 := Lib.hid hown1; have HB1 := Lib.hid (HW0.out.trans hbel1); clear hown1 hbel1)
    | (at_builtin; refine wpList_append_bytes rfl (.tmp 8) (.tmp 9) rfl w.heap.size _ _ _ rfl HO1.out vb lb rfl (HVB.out _ HB1.out) (by omega) HB1.out.size ?_; intro v2 w2 hown2 hbel2; have HO2 := Lib.hid hown2; have HB2 := Lib.hid (HB1.out.trans hbel2); clear hown2 hbel2)
    | fail)
  have hx2 : BytesAt w2 v2 (la ++ lb) := by
    have := HO2.out
    refine bytesAt_own (B := w.heap.size) ?_
    simpa [byteVals] using this
  have HA := Lib.hid (alive_true w2 (HT.out.below HB2.out hB) (by have := HB2.out.size; omega))
  refine HA.out.mono ?_
  rintro e w3 ⟨rfl, hb3⟩
  have HB3 := Lib.hid (HB2.out.trans (hb3.mono HB2.out.size))
  have HX3 := Lib.hid (hx2.below hb3)
  clear hx2 hb3
  have HS1 := Lib.hid (sum_bytes v2 (la ++ lb) w3 HX3.out (by simpa using hlen) (by intro x hx; rcases List.mem_append.1 hx with h | h; exact HBA.out x h; exact HBB.out x h) (HT.out.below HB3.out hB))
  have HS2 := Lib.hid (sum_bytes va la w3 (HVA.out w3 HB3.out) (by omega) HBA.out (HT.out.below HB3.out hB))
  have HS3 := Lib.hid (more_bytes vb lb (crc 0 la) w3 (HVB.out w3 HB3.out) (by omega) HBB.out (HT.out.below HB3.out hB))
  have HE := Lib.hid (crc_append 0 la lb)
  go_wp2_with fail
  refine HS1.out.mono ?_
  rintro e w' ⟨rfl, rfl⟩
  rw [HE.out]
  go_wp2_with fail
  refine HS2.out.mono ?_
  rintro e w' ⟨rfl, rfl⟩
  go_wp2_with fail
  refine HS3.out.mono ?_
  rintro e w' ⟨rfl, rfl⟩
  go_wp2
  go_ret
  exact ⟨rfl, HB3.out⟩

theorem wpList_make_bytes {ops : Array Oper} {rest : List Oper} {o : Oper} {a : Act} {w : World} {Q : Exit → Act → World → Prop} (hgd : Region.wanted o (yielded ops a.tmps) = true) (x : Operand)
    (ho : o.op = Op.makeSlice 22 x x) (n : Nat) (hx : a.eval x = .int .i64 n) (hn : n ≤ 140737488355328)
    (h : ∀ w', w'.ownsRow w.heap.size 5 1 (.slice (some ⟨w.heap.size, 0, none⟩) n n) n (byteVals (List.replicate n 0)) → Below w.heap.size w w' →
      wpList Tryd.prog ops Q rest (a.put o.dst (.slice (some ⟨w.heap.size, 0, none⟩) n n)) w') : wpList Tryd.prog ops Q (o :: rest) a w := by
  obtain ⟨i0, hi, hz0, hz1, hz2⟩ := info_parts Tryd.info5
  refine wpList_wanted hgd fun K hK => ?_
  obtain ⟨w', hrun, r1, r2⟩ := run_make_full (P := Tryd.prog) w w.heap.size 22 5 i0 (.int .u8 0) 1 Tryd.underlying22 hi hz0 hz1 .i64 .i64 n (by rw [hz2]; omega) (by unfold maxLen; omega) (Nat.le_refl _)
  unfold Oper.wp
  simp only [execOp, ho, hx, hrun, Sem.run_bind, Sem.run_pure, Result.andThen]
  refine hK _ _ (h w' ?_ ((Below.refl _ _).grown r2 (Nat.le_refl _) (fun k hk => by simp at hk)))
  have e : (madeCells (Value.int .u8 0).cells (n * 1)).toList = byteVals (List.replicate n 0) := by
    rw [Nat.mul_one]
    show (madeCells #[Value.int .u8 0] n).toList = _
    rw [toList_madeCells_one]
    simp [byteVals]
  rw [← e]
  exact r1

theorem crc_lead (n : Nat) (l : List Int) : crc 0 (List.replicate n 0 ++ l) = crc 0 l := by rw [crc_append, crc_zeros]

set_option maxHeartbeats 400000 in
theorem zeros_in (n : Nat) (v : Value) (l : List Int) (w : World) (hn : n ≤ 1000) (hv : ∀ w', Below w.heap.size w w' → BytesAt w' v l) (hlen : l.length ≤ 140737488351232) (hb : ∀ x ∈ l, isByte x) (ht : TabAt w) (hB : 0 < w.heap.size) :
    Calls Tryd.prog 6 #[.int .i64 n, v] w fun e w' => e = .returned (.bool true) ∧ Below w.heap.size w w' := by
  have HT := Lib.hid ht
  have HV := Lib.hid hv
  have HBy := Lib.hid hb
  have HA := Lib.hid (alive_true w ht hB)
  clear ht hv hb
  have h0 : ¬ (n : Int) < 0 := by omega
  have h1 : ¬ (1000 : Int) < n := by omega
  go_enter Tryd.func6, Tryd.ntmps6
  go_wp2_with fail
  refine HA.out.mono ?_
  rintro e w1 ⟨rfl, hb1⟩
  have HB1 := Lib.hid hb1; clear hb1
  go_wp2_with (first
    | (at_make; refine wpList_make_bytes rfl (.tmp 14) rfl n rfl (by omega) ?_; intro w2 hown2 hbel2; have HO2 := Lib.hid hown2; have HB2 := Lib.hid hbel2; clear hown2 hbel2)
    | (at_builtin; refine wpList_append_bytes rfl (.tmp 15) (.tmp 16) rfl w1.heap.size _ _ _ rfl HO2.out v l rfl (HV.out _ (HB1.out.trans (HB2.out.mono HB1.out.size))) (by omega) HB2.out.size ?_; intro v3 w3 hown3 hbel3; have HO3 := Lib.hid hown3; have HB3 := Lib.hid (HB1.out.trans ((HB2.out.trans hbel3).mono HB1.out.size)); clear hown3 hbel3)
    | fail)
  have hx3 : BytesAt w3 v3 (List.replicate n 0 ++ l) := by
    have := HO3.out
    refine bytesAt_own (B := w1.heap.size) ?_
    simpa [byteVals] using this
  have HX3 := Lib.hid hx3; clear hx3
  have HS1 := Lib.hid (sum_bytes v3 (List.replicate n 0 ++ l) w3 HX3.out (by simp; omega) (by intro x hx; rcases List.mem_append.1 hx with h | h; (have := List.eq_of_mem_replicate h; subst this; unfold isByte; omega); exact HBy.out x h) (HT.out.below HB3.out hB))
  have HS2 := Lib.hid (sum_bytes v l w3 (HV.out w3 HB3.out) (by omega) HBy.out (HT.out.below HB3.out hB))
  have HE := Lib.hid (crc_lead n l)
  refine HS1.out.mono ?_
  rintro e w' ⟨rfl, rfl⟩
  rw [HE.out]
  go_wp2_with fail
  refine HS2.out.mono ?_
  rintro e w' ⟨rfl, rfl⟩
  go_wp2
  go_ret
  exact ⟨rfl, HB3.out⟩

set_option maxHeartbeats 400000 in
theorem zeros_out (n : Int) (v : Value) (w : World) (hn : n < 0 ∨ 1000 < n) (ht : TabAt w) (hB : 0 < w.heap.size) :
    Calls Tryd.prog 6 #[.int .i64 n, v] w fun e w' => e = .returned (.bool true) ∧ Below w.heap.size w w' := by
  have HA := Lib.hid (alive_true w ht hB)
  clear ht
  rcases hn with h | h
  · go_enter Tryd.func6, Tryd.ntmps6
    go_wp2_with fail
    refine HA.out.mono ?_
    rintro e w1 ⟨rfl, hb1⟩
    have HB1 := Lib.hid hb1; clear hb1
    go_wp2
    go_ret
    exact ⟨rfl, HB1.out⟩
  · have h' : ¬ n < 0 := by omega
    go_enter Tryd.func6, Tryd.ntmps6
    go_wp2_with fail
    refine HA.out.mono ?_
    rintro e w1 ⟨rfl, hb1⟩
    have HB1 := Lib.hid hb1; clear hb1
    go_wp2
    go_ret
    exact ⟨rfl, HB1.out⟩

theorem zeros_walk (n : Int) (v : Value) (l : List Int) (w : World) (hv : ∀ w', Below w.heap.size w w' → BytesAt w' v l) (hlen : l.length ≤ 140737488351232) (hb : ∀ x ∈ l, isByte x) (ht : TabAt w) (hB : 0 < w.heap.size) :
    Calls Tryd.prog 6 #[.int .i64 n, v] w fun e w' => e = .returned (.bool true) ∧ Below w.heap.size w w' := by
  by_cases h : n < 0 ∨ 1000 < n
  · exact zeros_out n v w h ht hB
  · obtain ⟨m, rfl⟩ := Int.eq_ofNat_of_zero_le (show 0 ≤ n by omega)
    exact zeros_in m v l w (by omega) hv hlen hb ht hB
end Go.Proofs.YtfokonoeaifceaaDoor
