/- The walk of DequeTurned. -/
import Derived.Test.YtemacgcklgdhpaaLaws
namespace Go.Proofs.Ytemacgcklgdhpaa
open Go.RowKit

/-- behind k pushes -/
def pushRow (l : List ByteArray) (a : Bool) (k : Nat) : List ByteArray := if a then (l.take k).reverse else l.take k
/-- behind k pops -/
def popRow (R : List ByteArray) (b : Bool) (k : Nat) : List ByteArray := if b then R.drop k else R.take (R.length - k)
/-- what comes out -/
def want (l : List ByteArray) (a b : Bool) (k : Nat) : ByteArray := if a = b then l.getD (l.length - 1 - k) emptyS else l.getD k emptyS

theorem pushRow_len (l : List ByteArray) (a : Bool) (k : Nat) (h : k ≤ l.length) : (pushRow l a k).length = k := by
  unfold pushRow
  split <;> simp <;> omega
theorem pushRow_step (l : List ByteArray) (a : Bool) (k : Nat) (h : k < l.length) (hl : l.length ≤ 256) : pushed (pushRow l a k) a (l.getD k emptyS) = pushRow l a (k + 1) := by
  have hlen := pushRow_len l a k (by omega)
  unfold pushed
  rw [if_pos (by omega)]
  unfold pushRow
  have e : l.take (k + 1) = l.take k ++ [l.getD k emptyS] := by
    rw [List.take_add_one, List.getElem?_eq_getElem h]
    simp [List.getD, List.getElem?_eq_getElem h]
  rw [e]
  cases a <;> simp
theorem popRow_len (R : List ByteArray) (b : Bool) (k : Nat) : (popRow R b k).length = R.length - k := by
  unfold popRow
  split <;> simp
theorem popRow_step (R : List ByteArray) (b : Bool) (k : Nat) (h : k < R.length) : popped (popRow R b k) b = popRow R b (k + 1) := by
  unfold popped popRow
  cases b with
  | true => simp
  | false =>
    simp only [Bool.false_eq_true, if_false]
    rw [List.dropLast_eq_take, List.take_take, List.length_take]
    congr 1
    omega
theorem popRow_pop (l : List ByteArray) (a b : Bool) (k : Nat) (h : k < l.length) : popS (popRow (pushRow l a l.length) b k) b = want l a b k := by
  have hlen : (pushRow l a l.length).length = l.length := pushRow_len _ _ _ (Nat.le_refl _)
  have h2 := popRow_len (pushRow l a l.length) b k
  unfold popS
  rw [if_neg (by omega), h2, hlen]
  unfold popRow want pushRow
  rw [List.take_length]
  cases a <;> cases b <;> simp [List.getD, List.getElem?_drop, List.getElem?_take]
  · rw [if_pos (by omega)]
    congr 2
    omega
  · rw [if_pos (by omega), List.getElem?_reverse (by omega)]
    congr 2
    omega
  · rw [List.getElem?_reverse (by omega)]
theorem popRow_end (R : List ByteArray) (b : Bool) : (popRow R b R.length).length = 0 := by rw [popRow_len]; omega
theorem popRow_zero (R : List ByteArray) (b : Bool) : popRow R b 0 = R := by unfold popRow; cases b <;> simp

set_option maxRecDepth 100000 in
set_option maxHeartbeats 1600000 in
theorem turned_walk {w : World} {v : Value} {l : List ByteArray} (h : StrsIn w v l) (a b : Bool) : Calls Try.prog 3 #[v, .bool a, .bool b] w fun e w' => e = .returned (.bool true) ∧ Below w.heap.size w w' := by
  obtain ⟨sp, cap, rfl, hc⟩ := h
  by_cases hn : l.length ≤ 256
  · have hnI : ¬ (256 : Int) < l.length := by omega
    have HC := Lib.hid hc
    have HE : Hid ((a == b) = decide (a = b)) := by cases a <;> cases b <;> rfl
    clear hc
    go_enter Try.func3, Try.ntmps3
    go_wp2_with fail
    refine (dq_new w).mono ?_
    rintro e w1 ⟨rfl, hd, hb, hsz⟩
    have HD1 := Lib.hid hd
    have HB1 := Lib.hid hb
    clear hd hb
    go_wp2_with fail
    go_loopw [29] (fun i wr => ∃ k : Nat, k ≤ l.length ∧ i = .int .i64 k ∧ Dq wr w.heap.size (pushRow l a k) ∧ Below w.heap.size w wr) (fun i _ => l.length - (intOf i).toNat)
    case atStart =>
      have e : pushRow l a 0 = [] := by unfold pushRow; cases a <;> rfl
      exact ⟨0, Nat.zero_le _, rfl, by rw [e]; exact HD1.out, HB1.out⟩
    case round =>
      obtain ⟨k, hk, rfl, hd, hb⟩ := hrel
      have HD := Lib.hid hd
      have HB := Lib.hid hb
      have gr := hb.size
      clear hd hb
      by_cases hlt : k < l.length
      · obtain ⟨bs, off, rfl, hbs, hcc⟩ := HC.out (by omega)
        have hck := hcc k hlt
        have c0 := (HB.out.cell (p := ⟨bs, off + k, none⟩) hbs).trans hck
        have HP := Lib.hid (pushRow_step l a k hlt hn)
        have hT : Hid (decide ((pushRow l a k).length < 256) = true) := decide_eq_true (by rw [pushRow_len l a k (by omega)]; omega)
        generalize l.getD k emptyS = s at *
        have hki : (0 : Int) ≤ (k : Int) ∧ (k : Int) < l.length := by omega
        clear hck hcc
        go_wp2_with fail
        refine (dq_push HD.out a _).mono ?_
        rintro e w2 ⟨rfl, hd, ho⟩
        rw [hT.out]
        rw [HP.out] at hd
        have HD2 := Lib.hid hd
        have HB2 := Lib.hid (ho.new HB.out (Nat.le_refl _) gr)
        clear hd ho
        go_wp2
        go_roundw
        case rel => exact ⟨k + 1, by omega, by go_num, HD2.out, HB2.out⟩
        case measure => simp [intOf]; omega
      · have hkn : k = l.length := by omega
        subst hkn
        have hRl : (pushRow l a l.length).length = l.length := pushRow_len _ _ _ (Nat.le_refl _)
        have HRl := Lib.hid hRl
        go_wp2_with fail
        go_loopw [41] (fun i wr => ∃ j : Nat, j ≤ l.length ∧ i = .int .i64 j ∧ Dq wr w.heap.size (popRow (pushRow l a l.length) b j) ∧ Below w.heap.size w wr) (fun i _ => l.length - (intOf i).toNat)
        case atStart => exact ⟨0, Nat.zero_le _, rfl, by rw [popRow_zero]; exact HD.out, HB.out⟩
        case round =>
          obtain ⟨j, hj, rfl, hd, hb⟩ := hrel
          have HDj := Lib.hid hd
          have HBj := Lib.hid hb
          have grj := hb.size
          clear hd hb
          by_cases hjl : j < l.length
          · obtain ⟨bs, off, rfl, hbs, hcc⟩ := HC.out (by omega)
            obtain ⟨q, hq⟩ : ∃ q, q = l.length - 1 - j := ⟨_, rfl⟩
            have c0 := (HBj.out.cell (p := ⟨bs, off + j, none⟩) hbs).trans (hcc j hjl)
            have c1 := (HBj.out.cell (p := ⟨bs, off + q, none⟩) hbs).trans (hcc q (by omega))
            have hqi : (l.length : Int) - 1 - j = q := by omega
            have HStep := Lib.hid (popRow_step (pushRow l a l.length) b j (by omega))
            have HPop := Lib.hid (popRow_pop l a b j hjl)
            have hT : Hid (decide (0 < (popRow (pushRow l a l.length) b j).length) = true) := decide_eq_true (by rw [popRow_len]; omega)
            have HW : Hid (want l a b j = if a = b then l.getD q emptyS else l.getD j emptyS) := by rw [hq]; exact rfl
            generalize want l a b j = S at *
            generalize hs1 : l.getD q emptyS = s1 at *
            generalize hs2 : l.getD j emptyS = s2 at *
            have hji : (0 : Int) ≤ (j : Int) ∧ (j : Int) < l.length := by omega
            have hq2 : (0 : Int) ≤ (q : Int) ∧ (q : Int) < l.length := by omega
            clear hcc hs1 hs2 hq
            by_cases hab : a = b
            · subst hab
              rw [if_pos rfl] at HW
              go_wp2_with fail
              refine (dq_pop HDj.out a).mono ?_
              rintro e w2 ⟨rfl, hd, ho⟩
              rw [hT.out, HPop.out, HW.out]
              rw [HStep.out] at hd
              have HD2 := Lib.hid hd
              have HB2 := Lib.hid (ho.new HBj.out (Nat.le_refl _) grj)
              clear hd ho
              go_wp2
              go_roundw
              case rel => exact ⟨j + 1, by omega, by go_num, HD2.out, HB2.out⟩
              case measure => simp [intOf]; omega
            · rw [if_neg hab] at HW
              have hab2 : (a == b) = false := by simp [hab]
              have hab3 : decide (a = b) = false := by simp [hab]
              go_wp2_with fail
              refine (dq_pop HDj.out b).mono ?_
              rintro e w2 ⟨rfl, hd, ho⟩
              rw [hT.out, HPop.out, HW.out]
              rw [HStep.out] at hd
              have HD2 := Lib.hid hd
              have HB2 := Lib.hid (ho.new HBj.out (Nat.le_refl _) grj)
              clear hd ho
              go_wp2
              go_roundw
              case rel => exact ⟨j + 1, by omega, by go_num, HD2.out, HB2.out⟩
              case measure => simp [intOf]; omega
          · have hjn : j = l.length := by omega
            subst hjn
            have HZ : Hid ((popRow (pushRow l a l.length) b l.length).length = 0) := by rw [popRow_len, hRl]; exact Nat.sub_self _
            go_wp2_with fail
            refine (alive_walk _).mono ?_
            rintro e w2 ⟨rfl, hb⟩
            have HD2 := Lib.hid (HDj.out.below hb)
            have HB2 := Lib.hid (HBj.out.trans (hb.mono (by omega)))
            clear hb
            go_wp2_with fail
            refine (dq_len HD2.out).mono ?_
            rintro e w' ⟨rfl, rfl⟩
            rw [HZ.out]
            go_wp2
            go_ret
            exact ⟨rfl, HB2.out⟩
  · have hnI : (256 : Int) < l.length := by omega
    go_enter Try.func3, Try.ntmps3
    go_wp2_with fail
    refine (dq_new w).mono ?_
    rintro e w1 ⟨rfl, _, hb, hsz⟩
    have HB1 := Lib.hid hb
    clear hb
    go_wp2_with fail
    refine (alive_walk w1).mono ?_
    rintro e w2 ⟨rfl, hb⟩
    have HB2 := Lib.hid (HB1.out.trans (hb.mono (by omega)))
    clear hb
    go_wp2
    go_ret
    exact ⟨rfl, HB2.out⟩
end Go.Proofs.Ytemacgcklgdhpaa
