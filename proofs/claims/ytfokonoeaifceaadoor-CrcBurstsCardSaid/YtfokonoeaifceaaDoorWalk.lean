/- The walks of the sums: the program's and the document's. -/
import Derived.Test.YtfokonoeaifceaaDoorRows
import Derived.Test.YtfokonoeaifceaaDoorPlain
import Derived.WalkKit
import Derived.WalkLawsBesides
import Derived.Lib.Hide
namespace Go.Proofs.YtfokonoeaifceaaDoor
open Go.RowKit CrcM

/-- The table's cells. -/
def TabAt (w : World) : Prop := ∀ i, i < 16 → w.cell? ⟨0, i, none⟩ = some (.int .u16 ((halves.getD i 0).toNat : Int))

theorem bits_xor16 (a b : BitVec 16) : bits .xor .u16 (a.toNat : Int) (b.toNat : Int) = ((a ^^^ b).toNat : Int) := by
  rw [u16_xor_nat _ _ a.isLt b.isLt, BitVec.toNat_xor]

theorem in16 (x : Int) (h : isByte x) : (x * (256 : Int) : Int) = ((BitVec.ofInt 16 x <<< 8).toNat : Int) := by
  obtain ⟨h0, h1⟩ := h
  obtain ⟨n, rfl⟩ := Int.eq_ofNat_of_zero_le h0
  simp [BitVec.toNat_shiftLeft, Nat.shiftLeft_eq]
  omega

theorem wrap_shl (a : BitVec 16) (k : Nat) (m : Int) (hm : m = 2 ^ k) : IntKind.u16.wrap ((a.toNat : Int) * m) = ((a <<< k).toNat : Int) := by
  subst hm
  simp [IntKind.wrap_u16, BitVec.toNat_shiftLeft, Nat.shiftLeft_eq]

theorem ret_u16 {a b : BitVec 16} (h : a = b) : Ending.returned (.int .u16 (a.toNat : Int)) = .returned (.int .u16 (b.toNat : Int)) := by rw [h]
theorem val_u16 {a b : BitVec 16} (h : a = b) : Value.int .u16 (a.toNat : Int) = .int .u16 (b.toNat : Int) := by rw [h]

theorem crc_take (c : BitVec 16) (l : List Int) (k : Nat) (h : k < l.length) : crc c (l.take (k + 1)) = bstep (crc c (l.take k)) (l.getD k 0) := by
  rw [List.take_succ_eq_append_getElem h, crc_snoc]
  simp [h]

set_option maxHeartbeats 400000 in
theorem more_any (b off len cap : Nat) (l : List Int) (c : BitVec 16) (w : World) (hl : l.length = len) (hlen : len ≤ 140737488355328) (hb : ∀ x ∈ l, isByte x)
    (hcell : ∀ i, i < len → w.cell? ⟨b, off + i, none⟩ = some (.int .u8 (l.getD i 0))) (ht : TabAt w) :
    Calls Tryd.prog 14 #[.int .u16 c.toNat, .slice (some ⟨b, off, none⟩) len cap] w fun e w' => e = .returned (.int .u16 (crc c l).toNat) ∧ w = w' := by
  have HL := Lib.hid hl; clear hl
  have HC := Lib.hid hcell; clear hcell
  have HT := Lib.hid ht; clear ht
  have HB := Lib.hid hb; clear hb
  go_enter Tryd.func14, Tryd.ntmps14
  go_wp2
  go_loop [0, 9] (fun v i => ∃ k : Nat, k ≤ len ∧ i = .int .i64 k ∧ v = .int .u16 (crc c (l.take k)).toNat) (fun _ i => len - (intOf i).toNat)
  case atStart => exact ⟨0, Nat.zero_le _, rfl, rfl⟩
  case round =>
    obtain ⟨k, hk, rfl, rfl⟩ := hrel
    by_cases hlt : k < len
    · have hc := HC.out k hlt
      have hx : isByte (l.getD k 0) := HB.out _ (by have := HL.out; simp [this, hlt])
      have hn := crc_take c l k (by rw [HL.out]; exact hlt)
      generalize l.getD k 0 = x at hc hx hn
      generalize crc c (l.take k) = d at hn ⊢
      have HN := Lib.hid hn; clear hn
      obtain ⟨d1, hd1⟩ : ∃ d1, d1 = d ^^^ (BitVec.ofInt 16 x <<< 8) := ⟨_, rfl⟩
      obtain ⟨s1, hs1⟩ : ∃ s1, s1 = d1 <<< 4 := ⟨_, rfl⟩
      obtain ⟨t1, ht1⟩ : ∃ t1, t1 = halves.getD (d1.toNat / 4096) 0 := ⟨_, rfl⟩
      obtain ⟨d2, hd2⟩ : ∃ d2, d2 = s1 ^^^ t1 := ⟨_, rfl⟩
      obtain ⟨s2, hs2⟩ : ∃ s2, s2 = d2 <<< 4 := ⟨_, rfl⟩
      obtain ⟨t2, ht2⟩ : ∃ t2, t2 = halves.getD (d2.toNat / 4096) 0 := ⟨_, rfl⟩
      obtain ⟨d3, hd3⟩ : ∃ d3, d3 = s2 ^^^ t2 := ⟨_, rfl⟩
      have l1 : (d1.toNat : Int) < 65536 := by have := d1.isLt; omega
      have l2 : (d2.toNat : Int) < 65536 := by have := d2.isLt; omega
      have e1 : bits .xor .u16 (d.toNat : Int) (x * 256) = (d1.toNat : Int) := by rw [in16 x hx, bits_xor16, hd1]
      have e2 : IntKind.u16.wrap ((d1.toNat : Int) * 16) = (s1.toNat : Int) := by rw [wrap_shl d1 4 16 (by decide), hs1]
      have c1 : w.cell? ⟨0, d1.toNat / 4096, none⟩ = some (.int .u16 (t1.toNat : Int)) := by rw [ht1]; exact HT.out _ (by have := d1.isLt; omega)
      have e3 : bits .xor .u16 (s1.toNat : Int) (t1.toNat : Int) = (d2.toNat : Int) := by rw [bits_xor16, hd2]
      have e4 : IntKind.u16.wrap ((d2.toNat : Int) * 16) = (s2.toNat : Int) := by rw [wrap_shl d2 4 16 (by decide), hs2]
      have c2 : w.cell? ⟨0, d2.toNat / 4096, none⟩ = some (.int .u16 (t2.toNat : Int)) := by rw [ht2]; exact HT.out _ (by have := d2.isLt; omega)
      have e5 : bits .xor .u16 (s2.toNat : Int) (t2.toNat : Int) = (d3.toNat : Int) := by rw [bits_xor16, hd3]
      have fin : d3 = bstep d x := by
        rw [← bstep_half, ← hd1]
        have : half d1 = d2 := by rw [hd2, hs1, ht1]; rfl
        rw [this, hd3, hs2, ht2]; rfl
      have HF := Lib.hid fin
      clear fin hd1 hs1 ht1 hd2 hs2 ht2 hd3
      obtain ⟨hx0, hx1⟩ := hx
      go_wp2
      go_round
      case rel => exact ⟨k + 1, by omega, by go_num, val_u16 (by rw [HN.out, HF.out])⟩
      case measure => simp [intOf]; omega
    · have hke : l.take k = l := List.take_of_length_le (by rw [HL.out]; omega)
      have HK := Lib.hid hke; clear hke
      go_wp2
      go_ret
      exact ⟨ret_u16 (by rw [HK.out]), rfl⟩

theorem more_nil (a : Option Addr) (cap : Nat) (c : BitVec 16) (w : World) :
    Calls Tryd.prog 14 #[.int .u16 c.toNat, .slice a 0 cap] w fun e w' => e = .returned (.int .u16 c.toNat) ∧ w = w' := by
  go_enter Tryd.func14, Tryd.ntmps14
  go_wp2
  refine wp_loop_rounds 1 ?_
  rw [rounds_succ]
  go_wp2
  go_ret
  exact ⟨rfl, rfl⟩

/-- A slice value that holds these bytes. -/
def BytesAt (w : World) (v : Value) (l : List Int) : Prop :=
  (l = [] ∧ (v = .slice none 0 0 ∨ ∃ ad cap, v = .slice (some ad) 0 cap)) ∨ ∃ b off cap, v = .slice (some ⟨b, off, none⟩) l.length cap ∧ ∀ i, i < l.length → w.cell? ⟨b, off + i, none⟩ = some (.int .u8 (l.getD i 0))

theorem more_bytes (v : Value) (l : List Int) (c : BitVec 16) (w : World) (hv : BytesAt w v l) (hlen : l.length ≤ 140737488355328) (hb : ∀ x ∈ l, isByte x) (ht : TabAt w) :
    Calls Tryd.prog 14 #[.int .u16 c.toNat, v] w fun e w' => e = .returned (.int .u16 (crc c l).toNat) ∧ w = w' := by
  rcases hv with ⟨rfl, rfl | ⟨ad, cap, rfl⟩⟩ | ⟨b, off, cap, rfl, hc⟩
  · exact more_nil _ _ c w
  · exact more_nil _ _ c w
  · exact more_any b off _ cap l c w rfl hlen hb hc ht

set_option maxHeartbeats 800000 in
theorem rmore_any (b off len cap : Nat) (l : List Int) (c : BitVec 16) (w : World) (hl : l.length = len) (hlen : len ≤ 140737488355328) (hb : ∀ x ∈ l, isByte x)
    (hcell : ∀ i, i < len → w.cell? ⟨b, off + i, none⟩ = some (.int .u8 (l.getD i 0))) :
    Calls Tryd.prog 15 #[.int .u16 c.toNat, .slice (some ⟨b, off, none⟩) len cap] w fun e w' => e = .returned (.int .u16 (crc c l).toNat) ∧ w = w' := by
  have HL := Lib.hid hl; clear hl
  have HC := Lib.hid hcell; clear hcell
  have HB := Lib.hid hb; clear hb
  go_enter Tryd.func15, Tryd.ntmps15
  go_wp2
  go_loop [0, 5] (fun v i => ∃ k : Nat, k ≤ len ∧ i = .int .i64 k ∧ v = .int .u16 (crc c (l.take k)).toNat) (fun _ i => len - (intOf i).toNat)
  case atStart => exact ⟨0, Nat.zero_le _, rfl, rfl⟩
  case round =>
    obtain ⟨k, hk, rfl, rfl⟩ := hrel
    by_cases hlt : k < len
    · have hc := HC.out k hlt
      have hx : isByte (l.getD k 0) := HB.out _ (by have := HL.out; simp [this, hlt])
      have hn := crc_take c l k (by rw [HL.out]; exact hlt)
      generalize l.getD k 0 = x at hc hx hn
      generalize crc c (l.take k) = d at hn ⊢
      have HN := Lib.hid hn; clear hn
      obtain ⟨d1, hd1⟩ : ∃ d1, d1 = d ^^^ (BitVec.ofInt 16 x <<< 8) := ⟨_, rfl⟩
      have e1 : bits .xor .u16 (d.toNat : Int) (x * 256) = (d1.toNat : Int) := by rw [in16 x hx, bits_xor16, hd1]
      have fin : steps 8 d1 = bstep d x := by rw [hd1]; rfl
      have HF := Lib.hid fin
      clear fin hd1
      obtain ⟨hx0, hx1⟩ := hx
      go_wp2
      go_loop [0, 6] (fun v i => ∃ j : Nat, j ≤ 8 ∧ i = .int .i64 j ∧ v = .int .u16 (steps j d1).toNat) (fun _ i => 8 - (intOf i).toNat)
      case atStart => exact ⟨0, Nat.zero_le _, rfl, rfl⟩
      case round =>
        obtain ⟨j, hj, rfl, rfl⟩ := hrel
        by_cases hjt : j < 8
        · have hs := steps_succ j d1
          generalize steps j d1 = q at hs ⊢
          have HS := Lib.hid hs; clear hs
          have e2 : IntKind.u16.wrap ((q.toNat : Int) * 2) = ((q <<< 1).toNat : Int) := wrap_shl q 1 2 (by decide)
          have e3 : bits .xor .u16 ((q <<< 1).toNat : Int) 4129 = (((q <<< 1) ^^^ 0x1021#16).toNat : Int) := bits_xor16 _ 0x1021#16
          by_cases hm : 32768 ≤ q.toNat
          · have hm' : (32768 : Int) ≤ q.toNat := by omega
            have HM := Lib.hid (step_msb q hm)
            generalize (q <<< 1) ^^^ 0x1021#16 = z at e3 HM
            generalize q <<< 1 = y at e2 e3
            go_wp2
            go_round
            case rel => exact ⟨j + 1, by omega, by go_num, val_u16 (by rw [HS.out, HM.out])⟩
            case measure => simp [intOf]; omega
          · have hm' : ¬ (32768 : Int) ≤ q.toNat := by omega
            have HM := Lib.hid (step_low q hm)
            clear e3
            generalize q <<< 1 = y at e2 HM
            go_wp2
            go_round
            case rel => exact ⟨j + 1, by omega, by go_num, val_u16 (by rw [HS.out, HM.out])⟩
            case measure => simp [intOf]; omega
        · have h8 : j = 8 := by omega
          subst h8
          rw [HF.out]
          go_wp2
          go_round
          case rel => exact ⟨k + 1, by omega, by go_num, val_u16 (by rw [HN.out])⟩
          case measure => simp [intOf]; omega
    · have hke : l.take k = l := List.take_of_length_le (by rw [HL.out]; omega)
      have HK := Lib.hid hke; clear hke
      go_wp2
      go_ret
      exact ⟨ret_u16 (by rw [HK.out]), rfl⟩

theorem rmore_nil (a : Option Addr) (cap : Nat) (c : BitVec 16) (w : World) :
    Calls Tryd.prog 15 #[.int .u16 c.toNat, .slice a 0 cap] w fun e w' => e = .returned (.int .u16 c.toNat) ∧ w = w' := by
  go_enter Tryd.func15, Tryd.ntmps15
  go_wp2
  refine wp_loop_rounds 1 ?_
  rw [rounds_succ]
  go_wp2
  go_ret
  exact ⟨rfl, rfl⟩

theorem rmore_bytes (v : Value) (l : List Int) (c : BitVec 16) (w : World) (hv : BytesAt w v l) (hlen : l.length ≤ 140737488355328) (hb : ∀ x ∈ l, isByte x) :
    Calls Tryd.prog 15 #[.int .u16 c.toNat, v] w fun e w' => e = .returned (.int .u16 (crc c l).toNat) ∧ w = w' := by
  rcases hv with ⟨rfl, rfl | ⟨ad, cap, rfl⟩⟩ | ⟨b, off, cap, rfl, hc⟩
  · exact rmore_nil _ _ c w
  · exact rmore_nil _ _ c w
  · exact rmore_any b off _ cap l c w rfl hlen hb hc

theorem sum_bytes (v : Value) (l : List Int) (w : World) (hv : BytesAt w v l) (hlen : l.length ≤ 140737488355328) (hb : ∀ x ∈ l, isByte x) (ht : TabAt w) :
    Calls Tryd.prog 12 #[v] w fun e w' => e = .returned (.int .u16 (crc 0 l).toNat) ∧ w = w' := by
  have HM := Lib.hid (more_bytes v l 0 w hv hlen hb ht)
  clear hv hlen hb ht
  go_enter Tryd.func12, Tryd.ntmps12
  go_wp2_with fail
  refine HM.out.mono ?_
  rintro e w' ⟨rfl, rfl⟩
  go_wp2
  go_ret
  exact ⟨rfl, rfl⟩

theorem rsum_bytes (v : Value) (l : List Int) (w : World) (hv : BytesAt w v l) (hlen : l.length ≤ 140737488355328) (hb : ∀ x ∈ l, isByte x) :
    Calls Tryd.prog 13 #[v] w fun e w' => e = .returned (.int .u16 (crc 0 l).toNat) ∧ w = w' := by
  have HM := Lib.hid (rmore_bytes v l 0 w hv hlen hb)
  clear hv hlen hb
  go_enter Tryd.func13, Tryd.ntmps13
  go_wp2_with fail
  refine HM.out.mono ?_
  rintro e w' ⟨rfl, rfl⟩
  go_wp2
  go_ret
  exact ⟨rfl, rfl⟩
end Go.Proofs.YtfokonoeaifceaaDoor
