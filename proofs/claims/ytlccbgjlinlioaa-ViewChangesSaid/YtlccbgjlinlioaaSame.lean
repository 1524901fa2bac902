/- Two packets, two sets of slots, that are alike; the walk of Same. -/
import Derived.Test.YtlccbgjlinlioaaRDo
import Derived.ChangeKeysEq
namespace Go.Proofs.Ytlccbgjlinlioaa
open Go.RowKit

theorem info22 : Try.prog.info? 22 = some Try.t22 := by kernel_rfl
theorem cellsOf22 : Try.prog.cellsOf 22 = 1 := by kernel_rfl
theorem under22 : Try.prog.underlying 22 = some (.int .u64) := by kernel_rfl
theorem under24 : Try.prog.underlying 24 = some (.array 256 22) := by kernel_rfl

theorem run_part22 (w : World) (xs : Array Value) (i : Nat) (v : Value) (h : xs[i]? = some v) : (part 22 xs i).run Try.prog w = .ok v w := by
  unfold part
  simp only [Sem.run_bind, isAgg22, Result.andThen_ok, Bool.false_eq_true, if_false, h, Sem.run_pure]

theorem eqItems22 (w : World) (d : Nat) (c c' : Nat → Nat) : ∀ (is : List Nat), (∀ i ∈ is, i < 256) → (Op.eqItems (d + 1) 22 1 (wordsArr c) (wordsArr c') is).run Try.prog w = .ok (is.all fun i => ((c i : Int) == (c' i : Int))) w
  | [], _ => by simp [Op.eqItems]
  | i :: is, hi => by
    have h1 := hi i (by simp)
    have e1 : (wordsArr c)[i * 1]? = some (.int .u64 (c i : Int)) := by
      rw [Nat.mul_one]
      simp [wordsArr, wordsList, h1]
    have e2 : (wordsArr c')[i * 1]? = some (.int .u64 (c' i : Int)) := by
      rw [Nat.mul_one]
      simp [wordsArr, wordsList, h1]
    simp only [Op.eqItems, Sem.run_bind, run_part22 w _ _ _ e1, run_part22 w _ _ _ e2, Result.andThen_ok, run_equalIn_int w d 22 .u64 .u64 _ _ under22, List.all_cons]
    cases hb : ((c i : Int) == (c' i : Int))
    · simp
    · simp only [Bool.not_true, Bool.false_eq_true, if_false, Bool.true_and]
      exact eqItems22 w d c c' is fun j hj => hi j (by simp [hj])

theorem equal24 (w : World) (d : Nat) (c c' : Nat → Nat) : (Op.equalIn (d + 2) 24 (.agg (wordsArr c)) (.agg (wordsArr c'))).run Try.prog w = .ok ((List.range 256).all fun i => ((c i : Int) == (c' i : Int))) w := by
  rw [run_equalIn_array w (d + 1) _ _ under24 info22, cellsOf22]
  exact eqItems22 w d c c' _ fun i hi => List.mem_range.1 hi
theorem equal24_self (w : World) (d : Nat) (c : Nat → Nat) : (Op.equalIn (d + 2) 24 (.agg (wordsArr c)) (.agg (wordsArr c))).run Try.prog w = .ok true w := by
  rw [equal24]
  congr 1
  simp
theorem eqFields_self (w : World) (d : Nat) (xs : Array Value) : ∀ (fs : List Field), (∀ f ∈ fs, ∃ v, (part f.type xs f.offset).run Try.prog w = .ok v w ∧ (Op.equalIn d f.type v v).run Try.prog w = .ok true w) → (Op.eqFields d xs xs fs).run Try.prog w = .ok true w
  | [], _ => by simp [Op.eqFields]
  | f :: fs, h => by
    obtain ⟨v, h1, h2⟩ := h f (by simp)
    have ih := eqFields_self w d xs fs fun g hg => h g (by simp [hg])
    simp only [Op.eqFields]
    split
    · simp only [Sem.run_bind, h1, h2, Result.andThen_ok, Bool.not_true, Bool.false_eq_true, if_false]
      exact ih
    · exact ih

theorem fields29 : (Try.prog.fieldsOf 29).toList.map (fun f => (f.type, f.offset)) = [(3, 0), (3, 1), (3, 2), (22, 3), (22, 4), (24, 5)] := by kernel_rfl
theorem structOf29 : Try.prog.underlying 29 = some (.struct (Try.prog.fieldsOf 29)) := by kernel_rfl
theorem stood29 : Try.prog.stoodInHeld 29 = false := by kernel_rfl
theorem guard29 : Try.prog.eqGuardType Try.prog.depth 29 = false := by kernel_rfl
theorem guard24 : Try.prog.eqGuardType Try.prog.depth 24 = false := by kernel_rfl
theorem under3 : Try.prog.underlying 3 = some (.int .i64) := by kernel_rfl

theorem run_part3 (w : World) (xs : Array Value) (i : Nat) (v : Value) (h : xs[i]? = some v) : (part 3 xs i).run Try.prog w = .ok v w := by
  unfold part
  simp only [Sem.run_bind, isAgg3, Result.andThen_ok, Bool.false_eq_true, if_false, h, Sem.run_pure]
set_option maxRecDepth 100000 in
theorem run_part24 (w : World) (p : PK) : (part 24 p.cells.toArray 5).run Try.prog w = .ok (.agg (wordsArr p.c)) w := by kernel_rfl

theorem equal29_self (w : World) (d : Nat) (p : PK) : (Op.equalIn (d + 3) 29 (.agg p.cells.toArray) (.agg p.cells.toArray)).run Try.prog w = .ok true w := by
  rw [run_equalIn_struct w (d + 2) 29 _ _ structOf29 stood29]
  refine eqFields_self w _ _ _ fun f hf => ?_
  have hm : (f.type, f.offset) ∈ (Try.prog.fieldsOf 29).toList.map (fun f => (f.type, f.offset)) := List.mem_map.2 ⟨f, hf, rfl⟩
  rw [fields29] at hm
  simp only [List.mem_cons, Prod.mk.injEq, List.not_mem_nil, or_false] at hm
  rcases hm with ⟨h1, h2⟩ | ⟨h1, h2⟩ | ⟨h1, h2⟩ | ⟨h1, h2⟩ | ⟨h1, h2⟩ | ⟨h1, h2⟩ <;> rw [h1, h2]
  · exact ⟨_, run_part3 w _ _ (.int .i64 p.kind) rfl, by rw [run_equalIn_int w (d + 1) 3 .i64 .i64 _ _ under3]; simp⟩
  · exact ⟨_, run_part3 w _ _ (.int .i64 p.frm) rfl, by rw [run_equalIn_int w (d + 1) 3 .i64 .i64 _ _ under3]; simp⟩
  · exact ⟨_, run_part3 w _ _ (.int .i64 p.of) rfl, by rw [run_equalIn_int w (d + 1) 3 .i64 .i64 _ _ under3]; simp⟩
  · exact ⟨_, run_part22 w _ _ (.int .u64 p.ep) rfl, by rw [run_equalIn_int w (d + 1) 22 .u64 .u64 _ _ under22]; simp⟩
  · exact ⟨_, run_part22 w _ _ (.int .u64 p.cur) rfl, by rw [run_equalIn_int w (d + 1) 22 .u64 .u64 _ _ under22]; simp⟩
  · exact ⟨_, run_part24 w p, equal24_self w d _⟩

/-- != of two alike -/
theorem exec_neq29 {o : Oper} {a : Act} {u : World} {x y : Operand} {t' : TypeId} (ho : o.op = .binOp .neq 29 x y t') (p : PK) (hx : a.eval x = .agg p.cells.toArray) (hy : a.eval y = .agg p.cells.toArray) :
    (execOp a.eval o).run Try.prog u = .ok (.value (.bool false)) u := by
  unfold execOp
  simp only [ho, hx, hy, Sem.run_bind, run_eqGuard_agg u .neq 29 x y _ _ guard29, Result.andThen_ok, run_neq_struct, equal29_self u 9997 p, Sem.run_pure]
  rfl
theorem exec_neq24 {o : Oper} {a : Act} {u : World} {x y : Operand} {t' : TypeId} (ho : o.op = .binOp .neq 24 x y t') (c : Nat → Nat) (hx : a.eval x = .agg (wordsArr c)) (hy : a.eval y = .agg (wordsArr c)) :
    (execOp a.eval o).run Try.prog u = .ok (.value (.bool false)) u := by
  unfold execOp
  simp only [ho, hx, hy, Sem.run_bind, run_eqGuard_agg u .neq 24 x y _ _ guard24, Result.andThen_ok, run_neq_struct, equal24_self u 9998 c, Sem.run_pure]
  rfl

section
variable {C : World → Prop} {o : Oper} {a : Act} {K : Act → Prop}
theorem quiet_exec {P : Program} (v : Value) (h : ∀ u, C u → (execOp a.eval o).run P u = .ok (.value v) u) (hk : K (a.put o.dst v)) : o.quiet P a C K :=
  ⟨v, fun w hw => by unfold Oper.quietAt; rw [h w hw]; exact ⟨rfl, rfl⟩, hk⟩
theorem quiet_load_mid {P : Program} (ty : TypeId) (x : Operand) (ho : o.op = .load ty x) (b off : Nat) (hx : a.eval x = .pointer (some ⟨b, off, none⟩)) (cs : List Value) (d : TypeDesc) (hg : ∀ w, C w → w.rangeAt b off cs)
    (hu : P.underlying ty = some d) (hd : d.isRow = true) (hi : (P.info? ty).map (·.size) = some cs.length) (hk : K (a.put o.dst (.agg cs.toArray))) : o.quiet P a C K :=
  quiet_exec _ (fun u hu' => exec_load_mid ty x ho b off hx cs d (hg u hu') hu hd hi) hk
end

/-- the cells of one of a row of packets -/
theorem pkRow_get : ∀ (l : List PK) (i : Nat) (p : PK), l[i]? = some p → ∀ j v, p.cells[j]? = some v → (pkRow l)[i * 261 + j]? = some v
  | [], _, _, h, _, _, _ => by simp at h
  | q :: l, 0, p, h, j, v, hv => by
    simp at h
    subst h
    have hj : j < 261 := by rw [← q.cells_len]; exact (List.getElem?_eq_some_iff.1 hv).1
    simp only [pkRow, List.flatMap_cons]
    rw [Nat.zero_mul, Nat.zero_add, List.getElem?_append_left (by rw [PK.cells_len]; omega)]
    exact hv
  | q :: l, i + 1, p, h, j, v, hv => by
    simp at h
    have := pkRow_get l i p h j v hv
    simp only [pkRow, List.flatMap_cons] at *
    rw [List.getElem?_append_right (by rw [PK.cells_len]; omega), PK.cells_len, show (i + 1) * 261 + j - 261 = i * 261 + j by omega]
    exact this

theorem RowAt.range {w : World} {B b cap : Nat} {l : List PK} {n : Nat} (h : RowAt w B (.slice (some ⟨b, 0, none⟩) n cap) l) (i : Nat) (p : PK) (hp : l[i]? = some p) : w.rangeAt b (i * 261) p.cells := by
  intro j v hv
  rcases h.2 with ⟨h1, _⟩ | ⟨g', cap', cur, e, _, hh, hcap, _, hsz, htk⟩
  · cases h1
  · have e2 : g' = b := by
      simp only [Value.slice.injEq, Option.some.injEq, Addr.mk.injEq] at e
      exact e.1.1.symm
    subst e2
    have hg := pkRow_get l i p hp j v hv
    rw [← htk] at hg
    rw [cell_of_row _ _ _ _ _ _ hh]
    have hlt : i * 261 + j < l.length * 261 := by
      have h1 := (List.getElem?_eq_some_iff.1 hp).1
      have h2 : j < 261 := by rw [← p.cells_len]; exact (List.getElem?_eq_some_iff.1 hv).1
      omega
    rw [List.getElem?_take_of_lt hlt, Array.getElem?_toList] at hg
    exact hg

/-- where Same stands -/
structure SameW (w : World) (B : Nat) (va vb : Value) (l : List PK) (u : World) : Prop where
  below : Below w.heap.size w u
  a : RowAt u B va l
  b : RowAt u B vb l
theorem SameW.drew {w : World} {B : Nat} {va vb : Value} {l : List PK} {u : World} (h : SameW w B va vb l u) : SameW w B va vb l u.drew := ⟨below_drewN h.below 1, h.a, h.b⟩

set_option maxRecDepth 100000 in
set_option maxHeartbeats 1600000 in
theorem same_any {w : World} {B : Nat} {va vb : Value} {l : List PK} (ha : RowAt w B va l) (hb : RowAt w B vb l) (hl : l.length < 1000) :
    Calls Try.prog 17 #[va, vb] w fun e w' => e = .returned (.bool true) ∧ Below w.heap.size w w' := by
  have HS0 : Hid (SameW w B va vb l w) := ⟨Below.refl _ _, ha, hb⟩
  obtain ⟨pa, ca, rfl, hpa⟩ := own_form ha
  obtain ⟨pb, cb, rfl, hpb⟩ := own_form hb
  have HPA := Lib.hid hpa
  have HPB := Lib.hid hpb
  obtain ⟨n, hn⟩ : ∃ n, n = l.length := ⟨_, rfl⟩
  rw [← hn] at HPA HPB hl
  have HN := Lib.hid hn
  rw [← hn] at HS0 ⊢
  clear hn hpa hpb ha hb
  go_enter Try.func17, Try.ntmps17
  go_wp2_with fail
  go_loopw [5] (fun c wx => ∃ m : Nat, m ≤ n ∧ c = .int .i64 m ∧ Hid (SameW w B (.slice pa n ca) (.slice pb n cb) l wx)) (fun c _ => n - (intOf c).toNat)
  case atStart => exact ⟨0, Nat.zero_le _, rfl, HS0⟩
  case round =>
    obtain ⟨m, hm, rfl, HSx⟩ := hrel
    by_cases hlt : m < n
    · obtain ⟨ga, rfl⟩ := HPA.out (by omega)
      obtain ⟨gb, rfl⟩ := HPB.out (by omega)
      obtain ⟨p, hp⟩ : ∃ p, l[m]? = some p := ⟨_, List.getElem?_eq_getElem (by rw [← HN.out]; exact hlt)⟩
      have HP := Lib.hid hp
      have HS29 : Hid ((Try.prog.info? 29).map (·.size) = some p.cells.length) := by rw [PK.cells_len]; exact size29
      clear hp
      obtain ⟨C, hC⟩ : ∃ C : World → Prop, C = fun u => SameW w B (.slice (some ⟨ga, 0, none⟩) n ca) (.slice (some ⟨gb, 0, none⟩) n cb) l u := ⟨_, rfl⟩
      have HCi : Hid (∀ u, C u → SameW w B (.slice (some ⟨ga, 0, none⟩) n ca) (.slice (some ⟨gb, 0, none⟩) n cb) l u) := fun u h => by rw [hC] at h; exact h
      have HCo : ∀ u, SameW w B (.slice (some ⟨ga, 0, none⟩) n ca) (.slice (some ⟨gb, 0, none⟩) n cb) l u → C u := fun u h => by rw [hC]; exact h
      have HC0 := Lib.hid (HCo _ HSx.out.drew)
      have KA : Hid (∀ u, C u → u.rangeAt ga (m * 261) p.cells) := fun u hu => (HCi.out u hu).a.range m p HP.out
      have KBb : Hid (∀ u, C u → u.rangeAt gb (m * 261) p.cells) := fun u hu => (HCi.out u hu).b.range m p HP.out
      have KN : Hid (∀ (u : World) (o : Oper) (a : Act) (x y : Operand) (t' : TypeId), o.op = .binOp .neq 29 x y t' → a.eval x = .agg p.cells.toArray → a.eval y = .agg p.cells.toArray → (execOp a.eval o).run Try.prog u = .ok (.value (.bool false)) u) := fun u o a x y t' ho hx hy => exec_neq29 ho p hx hy
      generalize p.cells = PC at *
      clear hC HCo
      go_wp2_with fail
      refine wp_region_class (C := C) (by kernel_rfl) (by kernel_rfl) HC0.out ?_
      repeat (first
        | go_big_quiet_skip
        | (go_big_quiet_want; refine quiet_load_mid 29 (.tmp 19) rfl ga (m * 261) rfl PC _ KA.out Try.underlying29 rfl HS29.out ?_; simp only [Act.put, List.setIfInBounds_toArray, List.set_cons_succ, List.set_cons_zero]; go_big_quiet_on)
        | (go_big_quiet_want; refine quiet_load_mid 29 (.tmp 23) rfl gb (m * 261) rfl PC _ KBb.out Try.underlying29 rfl HS29.out ?_; simp only [Act.put, List.setIfInBounds_toArray, List.set_cons_succ, List.set_cons_zero]; go_big_quiet_on)
        | (go_big_quiet_want; refine quiet_exec _ (fun u _ => KN.out u _ _ _ _ _ rfl rfl rfl) ?_; simp only [Act.put, List.setIfInBounds_toArray, List.set_cons_succ, List.set_cons_zero]; go_big_quiet_on)
        | (go_big_quiet_want; go_big_quiet_op; first
            | go_big_quiet_on
            | (refine ⟨_, fun _ _ => rfl, ?_⟩; go_big_quiet_on)))
      refine wpQuiet_nil ?_
      intro wz hwz
      have HSz : Hid (SameW w B (.slice (some ⟨ga, 0, none⟩) n ca) (.slice (some ⟨gb, 0, none⟩) n cb) l wz) := HCi.out _ hwz
      clear hwz
      go_wp2
      go_roundw
      case rel => exact ⟨m + 1, by omega, by go_num, HSz⟩
      case measure => simp [intOf]; omega
    · have hm2 : m = n := by omega
      subst hm2
      go_wp2
      go_ret
      exact ⟨rfl, HSx.out.below⟩
end Go.Proofs.Ytlccbgjlinlioaa
