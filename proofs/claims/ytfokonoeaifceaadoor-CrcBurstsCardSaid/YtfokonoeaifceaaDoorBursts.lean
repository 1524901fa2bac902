/- A text of which bits are turned. -/
import Derived.Test.YtfokonoeaifceaaDoorXors
import Derived.Outline
namespace Go.Proofs.YtfokonoeaifceaaDoor
open Go.RowKit CrcM

/-- Is bit i of the turn set, and its place in the text? (As the walk spells it.) -/
def turns (turn : Int) (p n : Nat) (i : Nat) : Bool := decide (bits .and .u16 (turn / 2 ^ i) 1 = 1) && decide ((p : Int) + (i : Int) < 8 * (n : Int))

def anyTurn (turn : Int) (p n : Nat) : Nat → Bool
  | 0 => false
  | i + 1 => turns turn p n i || anyTurn turn p n i

theorem anyTurn_spec (turn : Int) (p n k : Nat) (h : anyTurn turn p n k = true) : ∃ i, i < k ∧ turns turn p n i = true := by
  induction k with
  | zero => simp [anyTurn] at h
  | succ k ih =>
    simp only [anyTurn, Bool.or_eq_true] at h
    rcases h with h | h
    · exact ⟨k, by omega, h⟩
    · obtain ⟨i, hi, ht⟩ := ih h
      exact ⟨i, by omega, ht⟩

set_option maxHeartbeats 800000 in
theorem bursts_in (ab : Option Addr) (cb : Nat) (l : List Int) (p : Nat) (turn : Int) (w : World) (hb : BytesIn w ab cb l) (hl : l.length ≤ 140737488351232) (hp : p < 8 * l.length) (ht : TabAt w) (hB : 0 < w.heap.size) (_ht0 : 0 ≤ turn) (_ht1 : turn < 65536) :
    Calls Tryd.prog 9 #[.slice ab l.length cb, .int .i64 p, .int .u16 turn] w fun e w' => e = .returned (.bool true) ∧ Below w.heap.size w w' := by
  have HT := Lib.hid ht
  have HBb := Lib.hid hb
  clear ht hb
  have h0 : ¬ (p : Int) < 0 := by omega
  have h1 : ¬ (8 * (l.length : Int)) ≤ p := by omega
  have hw0 : Below w.heap.size w (w.alloc (.cells #[] 5)) := (Below.refl _ _).alloc (Nat.le_refl _) _
  have HW0 := Lib.hid hw0; clear hw0
  have HO := Lib.hid (own_empty w w.heap.size (Nat.le_refl _))
  have HV : Hid (BytesAt (w.alloc (.cells #[] 5)) (.slice ab l.length cb) l) := by
    have := HBb.out.at HW0.out l.length (Nat.le_refl _)
    rwa [List.take_length] at this
  go_enter Tryd.func9, Tryd.ntmps9
  go_wp2_with (at_builtin; refine wpList_append_bytes rfl (.tmp 21) (.tmp 22) rfl w.heap.size _ 0 _ rfl HO.out _ l rfl HV.out (by omega) HW0.out.size ?_; intro v1 w1 hown1 hbel1; have HO1 := Lib.hid hown1; have HB1 := Lib.hid (HW0.out.trans hbel1); clear hown1 hbel1)
  have hv : ∃ g cap, v1 = .slice (some ⟨g, 0, none⟩) l.length cap ∧ w.heap.size ≤ g := by
    rcases HO1.out.2 with ⟨_, h⟩ | ⟨g, cap, cur, h, hg, _⟩
    · omega
    · exact ⟨g, cap, by rw [h, Nat.zero_add], hg⟩
  obtain ⟨g, cap, rfl, hg⟩ := hv
  have hlen8 : ∀ i, turns turn p l.length i = true → p + i < 8 * l.length := by
    intro i h
    simp only [turns, Bool.and_eq_true, decide_eq_true_eq] at h
    omega
  have HL8 := Lib.hid hlen8
  have hby := Lib.hid HBb.out.bytes
  have HO2 : Hid (w1.ownsRow w.heap.size 5 1 (.slice (some ⟨g, 0, none⟩) l.length cap) l.length (byteVals (burst (turns turn p l.length) p 0 l))) := by
    have := HO1.out
    rw [Nat.zero_add] at this
    exact this
  clear hlen8 HO HO1 HV HW0
  go_loopw [8, 24] (fun t c wr => ∃ j : Nat, j ≤ 16 ∧ c = .int .i64 j ∧ t = .bool (anyTurn turn p l.length j) ∧ wr.ownsRow w.heap.size 5 1 (.slice (some ⟨g, 0, none⟩) l.length cap) l.length (byteVals (burst (turns turn p l.length) p j l)) ∧ Below w.heap.size w wr)
    (fun _ c _ => 16 - (intOf c).toNat)
  case atStart => exact ⟨0, by omega, rfl, rfl, HO2.out, HB1.out⟩
  case round =>
    obtain ⟨j, hj, rfl, rfl, hown, hbel⟩ := hrel
    have HO := Lib.hid hown; clear hown
    have HB := Lib.hid hbel; clear hbel
    have hlB := burst_length (turns turn p l.length) p j l
    by_cases hlt : j < 16
    · obtain ⟨x, hx⟩ : ∃ x, x = (burst (turns turn p l.length) p j l).getD ((p + j) / 8) 0 := ⟨_, rfl⟩
      obtain ⟨z, hz⟩ : ∃ z, z = bxor x ((128 / 2 ^ ((p + j) % 8) : Nat) : Int) := ⟨_, rfl⟩
      have hT : p + j < 8 * l.length → turns turn p l.length j = decide (bits .and .u16 (turn / 2 ^ j) 1 = 1) := fun h => by unfold turns; rw [decide_eq_true (show (p : Int) + (j : Int) < 8 * (l.length : Int) by omega), Bool.and_true]
      have hF : ¬ p + j < 8 * l.length → turns turn p l.length j = false := fun h => by unfold turns; rw [decide_eq_false (show ¬ (p : Int) + (j : Int) < 8 * (l.length : Int) by omega), Bool.and_false]
      have hG : ¬ bits .and .u16 (turn / 2 ^ j) 1 = 1 → turns turn p l.length j = false := fun h => by unfold turns; rw [decide_eq_false h, Bool.false_and]
      have HT1 := Lib.hid hT
      have HT2 := Lib.hid hF
      have HT3 := Lib.hid hG
      have HX := Lib.hid hx
      have HZ := Lib.hid hz
      have HLB := Lib.hid hlB
      clear hT hF hG hx hz hlB
      go_wp2
      · have hlt2 : (p : Int) + (j : Int) < 8 * (l.length : Int) := by assumption
        have hbit : bits .and .u16 (turn / 2 ^ j) 1 = 1 := by assumption
        have hq : (p + j) / 8 < l.length := by omega
        have c1 : wr.cell? ⟨g, (p + j) / 8, none⟩ = some (.int .u8 x) := by
          have h3 := HO.out.cellAt ((p + j) / 8) (by omega)
          rw [h3, HX.out]
          simp [byteVals, HLB.out, hq]
        have c2 := HO.out.frozenAt ((p + j) / 8)
        have hq' : ((p : Int) + (j : Int)) / 8 < (l.length : Int) := by omega
        go_region
        all_goals go_wp2
        have hTj : turns turn p l.length j = true := by rw [HT1.out (by omega)]; exact decide_eq_true hbit
        have hany : anyTurn turn p l.length (j + 1) = true := by unfold anyTurn; rw [hTj]; rfl
        have hxb : isByte x := by
          rw [HX.out]
          exact burst_bytes (turns turn p l.length) p j l hby.out _ (by rw [List.getD_eq_getElem?_getD, List.getElem?_eq_getElem (by rw [HLB.out]; exact hq)]; simp)
        have hval : bits .xor .u8 x (128 / 2 ^ ((p + j) % 8)) = bxor x ((128 / 2 ^ ((p + j) % 8) : Nat) : Int) := by
          have e : ((128 / 2 ^ ((p + j) % 8) : Nat) : Int) = (128 : Int) / 2 ^ ((p + j) % 8) := by simp
          rw [← e]
          refine bits_xor8 _ _ hxb ?_
          have h128 : 128 / 2 ^ ((p + j) % 8) ≤ 128 := Nat.div_le_self _ _
          generalize 128 / 2 ^ ((p + j) % 8) = q at h128
          unfold isByte
          omega
        have hst := (HO.out.stored ((p + j) / 8) (Value.int .u8 (bits .xor .u8 x (128 / 2 ^ ((p + j) % 8))))).1.drew
        have hrow : (byteVals (burst (turns turn p l.length) p j l)).set ((p + j) / 8) (Value.int .u8 (bits .xor .u8 x (128 / 2 ^ ((p + j) % 8)))) = byteVals (burst (turns turn p l.length) p (j + 1) l) := by
          rw [hval]
          simp only [burst, hTj, if_true, turnAt]
          rw [HX.out]
          simp [byteVals, List.map_set]
        rw [hrow] at hst
        go_roundw
        case rel => exact ⟨j + 1, by omega, by go_num, by rw [hany], hst, (HB.out.setCell (by exact hg) _).drew⟩
        case measure => simp [intOf]; omega
      · have hge : 8 * (l.length : Int) ≤ (p : Int) + (j : Int) := by assumption
        have hTj := HT2.out (by omega)
        have hany : anyTurn turn p l.length (j + 1) = anyTurn turn p l.length j := by rw [anyTurn, hTj, Bool.false_or]
        have hrow : burst (turns turn p l.length) p (j + 1) l = burst (turns turn p l.length) p j l := by rw [burst, hTj]; rfl
        go_roundw
        case rel => exact ⟨j + 1, by omega, by go_num, by rw [hany], by rw [hrow]; exact HO.out, HB.out⟩
        case measure => simp [intOf]; omega
      · have hnb : ¬ bits .and .u16 (turn / 2 ^ j) 1 = 1 := by assumption
        have hTj := HT3.out hnb
        have hany : anyTurn turn p l.length (j + 1) = anyTurn turn p l.length j := by rw [anyTurn, hTj, Bool.false_or]
        have hrow : burst (turns turn p l.length) p (j + 1) l = burst (turns turn p l.length) p j l := by rw [burst, hTj]; rfl
        go_roundw
        case rel => exact ⟨j + 1, by omega, by go_num, by rw [hany], by rw [hrow]; exact HO.out, HB.out⟩
        case measure => simp [intOf]; omega
    · have hj16 : j = 16 := by omega
      subst hj16
      have HAL := Lib.hid (alive_true wr (HT.out.below HB.out hB) (by have := HB.out.size; omega))
      have hx2 : BytesAt wr (.slice (some ⟨g, 0, none⟩) l.length cap) (burst (turns turn p l.length) p 16 l) := by
        refine bytesAt_own (B := w.heap.size) ?_
        rw [hlB]
        exact HO.out
      have HX2 := Lib.hid hx2
      have HLB := Lib.hid hlB
      clear hx2 hlB
      cases hA : anyTurn turn p l.length 16 with
      | false =>
        clear hA
        go_wp2_with fail
        refine HAL.out.mono ?_
        rintro e w3 ⟨rfl, hb3⟩
        have HB3 := Lib.hid (HB.out.trans (hb3.mono HB.out.size))
        clear hb3
        go_wp2
        go_ret
        exact ⟨rfl, HB3.out⟩
      | true =>
        obtain ⟨i, hi, hti⟩ := anyTurn_spec turn p l.length 16 hA
        have hne := crc_burst_ne (turns turn p l.length) p l hby.out HL8.out i hi hti
        clear hA hti hi
        have hS1 : ∀ w3, Below wr.heap.size wr w3 → Calls Tryd.prog 12 #[.slice (some ⟨g, 0, none⟩) l.length cap] w3 fun e w' => e = .returned (.int .u16 (crc 0 (burst (turns turn p l.length) p 16 l)).toNat) ∧ w3 = w' := fun w3 h3 =>
          sum_bytes _ _ w3 (HX2.out.below h3) (by rw [HLB.out]; omega) (burst_bytes _ _ _ _ hby.out) (HT.out.below (HB.out.trans (h3.mono HB.out.size)) hB)
        have hS2 : ∀ w3, Below wr.heap.size wr w3 → Calls Tryd.prog 12 #[.slice ab l.length cb] w3 fun e w' => e = .returned (.int .u16 (crc 0 l).toNat) ∧ w3 = w' := fun w3 h3 => by
          have h := HBb.out.at (HB.out.trans (h3.mono HB.out.size)) l.length (Nat.le_refl _)
          rw [List.take_length] at h
          exact sum_bytes _ _ w3 h (by omega) hby.out (HT.out.below (HB.out.trans (h3.mono HB.out.size)) hB)
        generalize crc 0 (burst (turns turn p l.length) p 16 l) = sx at hS1 hne
        generalize crc 0 l = sl at hS2 hne
        have hq1 : ((sx.toNat : Int) == (sl.toNat : Int)) = false := by
          rw [beq_eq_false_iff_ne]
          intro e
          exact hne (BitVec.eq_of_toNat_eq (by omega))
        have hq2 : ((sx.toNat : Int) != (sl.toNat : Int)) = true := by rw [bne, hq1]; rfl
        have hq3 : ¬ (sx.toNat : Int) = (sl.toNat : Int) := by simpa using hq1
        have HS1 := Lib.hid hS1
        have HS2 := Lib.hid hS2
        clear hS1 hS2 hne
        go_wp2_with fail
        refine HAL.out.mono ?_
        rintro e w3 ⟨rfl, hb3⟩
        have HB3' := Lib.hid hb3
        have HB3 := Lib.hid (HB.out.trans (hb3.mono HB.out.size))
        clear hb3
        go_wp2_with fail
        refine (HS1.out w3 HB3'.out).mono ?_
        rintro e w' ⟨rfl, rfl⟩
        go_wp2_with fail
        refine (HS2.out w3 HB3'.out).mono ?_
        rintro e w' ⟨rfl, rfl⟩
        go_wp2
        go_ret
        exact ⟨rfl, HB3.out⟩

set_option maxHeartbeats 400000 in
theorem bursts_out (v0 : Value) (ab : Option Addr) (cb n : Nat) (p turn : Int) (w : World) (hv : v0 = .slice ab n cb) (hn : n ≤ 140737488351232) (hp : p < 0 ∨ 8 * (n : Int) ≤ p) (ht : TabAt w) (hB : 0 < w.heap.size) :
    Calls Tryd.prog 9 #[v0, .int .i64 p, .int .u16 turn] w fun e w' => e = .returned (.bool true) ∧ Below w.heap.size w w' := by
  have HA := Lib.hid (alive_true w ht hB)
  clear ht
  subst hv
  rcases hp with h | h
  · go_enter Tryd.func9, Tryd.ntmps9
    go_wp2_with fail
    refine HA.out.mono ?_
    rintro e w1 ⟨rfl, hb1⟩
    have HB1 := Lib.hid hb1; clear hb1
    go_wp2
    go_ret
    exact ⟨rfl, HB1.out⟩
  · have h' : ¬ p < 0 := by omega
    go_enter Tryd.func9, Tryd.ntmps9
    go_wp2_with fail
    refine HA.out.mono ?_
    rintro e w1 ⟨rfl, hb1⟩
    have HB1 := Lib.hid hb1; clear hb1
    go_wp2
    go_ret
    exact ⟨rfl, HB1.out⟩

theorem bursts_walk (ab : Option Addr) (cb : Nat) (l : List Int) (p turn : Int) (w : World) (hb : BytesIn w ab cb l) (hl : l.length ≤ 140737488351232) (ht : TabAt w) (hB : 0 < w.heap.size) (ht0 : 0 ≤ turn) (ht1 : turn < 65536) :
    Calls Tryd.prog 9 #[.slice ab l.length cb, .int .i64 p, .int .u16 turn] w fun e w' => e = .returned (.bool true) ∧ Below w.heap.size w w' := by
  by_cases h : p < 0 ∨ 8 * (l.length : Int) ≤ p
  · exact bursts_out _ ab cb l.length p turn w rfl hl h ht hB
  · obtain ⟨m, rfl⟩ := Int.eq_ofNat_of_zero_le (show 0 ≤ p by omega)
    exact bursts_in ab cb l m turn w hb hl (by omega) ht hB ht0 ht1
end Go.Proofs.YtfokonoeaifceaaDoor
