/- The walks of the deque's methods, further: what is taken, and what stands at a place. -/
import Derived.Test.YtemacgcklgdhpaaDeq
namespace Go.Proofs.Ytemacgcklgdhpaa
open Go.RowKit

set_option maxRecDepth 100000 in
set_option maxHeartbeats 400000 in
theorem pop_none (g : Nat) (front : Bool) (w : World) (h7 : w.cell? ⟨g, 257, none⟩ = some (.int .i64 0)) :
    Calls Try.prog 12 #[.pointer (some ⟨g, 0, none⟩), .bool front] w fun e w' => e = .returned (.tuple #[.string emptyS, .bool false]) ∧ w = w' := by
  go_enter Try.func12, Try.ntmps12
  go_wp2
  go_ret2
  exact ⟨rfl, rfl⟩

set_option maxRecDepth 100000 in
set_option maxHeartbeats 400000 in
theorem pop_back (g f n k : Nat) (s : ByteArray) (w : World) (h6 : w.cell? ⟨g, 256, none⟩ = some (.int .i64 f)) (h7 : w.cell? ⟨g, 257, none⟩ = some (.int .i64 n))
    (hf : f < 256) (hn : 0 < n) (hn2 : n ≤ 256) (hk : k = (f + (n - 1)) % 256) (hc : w.cell? ⟨g, k, none⟩ = some (.string s)) (hz : ∀ i, w.frozen? ⟨g, i, none⟩ = false) :
    Calls Try.prog 12 #[.pointer (some ⟨g, 0, none⟩), .bool false] w fun e w' => e = .returned (.tuple #[.string s, .bool true]) ∧
      ((w.setCell ⟨g, k, none⟩ (.string emptyS)).setCell ⟨g, 257, none⟩ (.int .i64 ((n : Int) - 1))) = w' := by
  have z1 := hz k
  have z2 := hz 257
  have hm : k < 256 := by omega
  have hb : ((n : Int) == 0) = false := by rw [beq_eq_false_iff_ne]; omega
  have hcell := cell_any g f (n - 1) w h6 hf (by omega)
  rw [← hk, show ((n - 1 : Nat) : Int) = (n : Int) - 1 by omega] at hcell
  have HCell := Lib.hid hcell
  have hidx : (0 : Int) ≤ (k : Int) ∧ (k : Int) < 256 := by omega
  have h1 : (1 : Int) ≤ n := by omega
  clear hcell hz hk
  go_enter Try.func12, Try.ntmps12
  go_wp2_with fail
  refine HCell.out.mono ?_
  rintro e w' ⟨rfl, rfl⟩
  go_wp2
  go_ret2
  exact ⟨rfl, rfl⟩

set_option maxRecDepth 100000 in
set_option maxHeartbeats 400000 in
theorem pop_front (g f n k : Nat) (s : ByteArray) (w : World) (h6 : w.cell? ⟨g, 256, none⟩ = some (.int .i64 f)) (h7 : w.cell? ⟨g, 257, none⟩ = some (.int .i64 n))
    (hf : f < 256) (hn : 0 < n) (hn2 : n ≤ 256) (hk : k = (f + 1) % 256) (hc : w.cell? ⟨g, f, none⟩ = some (.string s)) (hz : ∀ i, w.frozen? ⟨g, i, none⟩ = false) :
    Calls Try.prog 12 #[.pointer (some ⟨g, 0, none⟩), .bool true] w fun e w' => e = .returned (.tuple #[.string s, .bool true]) ∧
      (((w.setCell ⟨g, 256, none⟩ (.int .i64 k)).setCell ⟨g, f, none⟩ (.string emptyS)).setCell ⟨g, 257, none⟩ (.int .i64 ((n : Int) - 1))) = w' := by
  have z1 := hz f
  have z2 := hz 257
  have z3 := hz 256
  have hm : k < 256 := by omega
  have hb : ((n : Int) == 0) = false := by rw [beq_eq_false_iff_ne]; omega
  have hcell := cell_any g f (n - 1) w h6 hf (by omega)
  rw [show ((n - 1 : Nat) : Int) = (n : Int) - 1 by omega] at hcell
  have hcell2 := cell_any g f 1 w h6 hf (by omega)
  rw [← hk] at hcell2
  have HCell := Lib.hid hcell
  have HCell2 := Lib.hid hcell2
  have hidx : (0 : Int) ≤ (f : Int) ∧ (f : Int) < 256 := by omega
  have h1 : (1 : Int) ≤ n := by omega
  clear hcell hcell2 hz hk
  go_enter Try.func12, Try.ntmps12
  go_wp2_with fail
  refine HCell.out.mono ?_
  rintro e w' ⟨rfl, rfl⟩
  go_wp2_with fail
  refine HCell2.out.mono ?_
  rintro e w' ⟨rfl, rfl⟩
  go_wp2
  go_ret2
  exact ⟨rfl, rfl⟩

theorem place_in (g f n : Nat) (i : Int) (k : Nat) (w : World) (h6 : w.cell? ⟨g, 256, none⟩ = some (.int .i64 f)) (h7 : w.cell? ⟨g, 257, none⟩ = some (.int .i64 n))
    (hf : f < 256) (hn : n ≤ 256) (hik : (0 ≤ i ∧ i = k) ∨ (i < 0 ∧ i + n = k)) (hk : k < n) :
    Calls Try.prog 31 #[.pointer (some ⟨g, 0, none⟩), .int .i64 i] w fun e w' => e = .returned (.int .i64 ((f + k) % 256 : Nat)) ∧ w = w' := by
  have HCell := Lib.hid (cell_any g f k w h6 hf (by omega))
  rcases hik with ⟨h0, rfl⟩ | ⟨h0, h1⟩
  · have h2 : ¬ (k : Int) < 0 := by omega
    have h3 : ¬ (n : Int) ≤ k := by omega
    go_enter Try.func31, Try.ntmps31
    go_wp2_with fail
    refine HCell.out.mono ?_
    rintro e w' ⟨rfl, rfl⟩
    go_wp2
    go_ret
    exact ⟨rfl, rfl⟩
  · have h2 : ¬ i + (n : Int) < 0 := by omega
    have h3 : ¬ (n : Int) ≤ i + (n : Int) := by omega
    have h4 : (-256 : Int) ≤ i := by omega
    have HE := Lib.hid h1
    clear h1
    go_enter Try.func31, Try.ntmps31
    go_wp2_with fail
    rw [HE.out]
    refine HCell.out.mono ?_
    rintro e w' ⟨rfl, rfl⟩
    go_wp2
    go_ret
    exact ⟨rfl, rfl⟩

theorem place_out (g n : Nat) (i : Int) (w : World) (h7 : w.cell? ⟨g, 257, none⟩ = some (.int .i64 n)) (hn : n ≤ 256) (hi : -9223372036854775808 ≤ i) (hik : (n : Int) ≤ i ∨ i + n < 0) :
    Calls Try.prog 31 #[.pointer (some ⟨g, 0, none⟩), .int .i64 i] w fun e w' => e = .returned (.int .i64 (-1)) ∧ w = w' := by
  rcases hik with h | h
  · have h2 : ¬ i < 0 := by omega
    go_enter Try.func31, Try.ntmps31
    go_wp2
    go_ret
    exact ⟨rfl, rfl⟩
  · have h2 : i < 0 := by omega
    go_enter Try.func31, Try.ntmps31
    go_wp2
    go_ret
    exact ⟨rfl, rfl⟩

theorem at_in (g k : Nat) (i : Int) (s : ByteArray) (w : World) (hp : Calls Try.prog 31 #[.pointer (some ⟨g, 0, none⟩), .int .i64 i] w fun e w' => e = .returned (.int .i64 k) ∧ w = w') (hk : k < 256)
    (hc : w.cell? ⟨g, k, none⟩ = some (.string s)) :
    Calls Try.prog 23 #[.pointer (some ⟨g, 0, none⟩), .int .i64 i] w fun e w' => e = .returned (.tuple #[.string s, .bool true]) ∧ w = w' := by
  have HP := Lib.hid hp
  clear hp
  have hidx : (0 : Int) ≤ (k : Int) ∧ (k : Int) < 256 := by omega
  have hneg : ¬ (k : Int) < 0 := by omega
  go_enter Try.func23, Try.ntmps23
  go_wp2_with fail
  refine HP.out.mono ?_
  rintro e w' ⟨rfl, rfl⟩
  go_wp2
  go_ret2
  exact ⟨rfl, rfl⟩

theorem at_out (g : Nat) (i : Int) (w : World) (hp : Calls Try.prog 31 #[.pointer (some ⟨g, 0, none⟩), .int .i64 i] w fun e w' => e = .returned (.int .i64 (-1)) ∧ w = w') :
    Calls Try.prog 23 #[.pointer (some ⟨g, 0, none⟩), .int .i64 i] w fun e w' => e = .returned (.tuple #[.string emptyS, .bool false]) ∧ w = w' := by
  have HP := Lib.hid hp
  clear hp
  go_enter Try.func23, Try.ntmps23
  go_wp2_with fail
  refine HP.out.mono ?_
  rintro e w' ⟨rfl, rfl⟩
  go_wp2
  go_ret2
  exact ⟨rfl, rfl⟩

set_option maxHeartbeats 400000 in
theorem put_in (g k : Nat) (i : Int) (s : ByteArray) (old : Value) (w : World) (hp : Calls Try.prog 31 #[.pointer (some ⟨g, 0, none⟩), .int .i64 i] w fun e w' => e = .returned (.int .i64 k) ∧ w = w') (hk : k < 256)
    (hc : w.cell? ⟨g, k, none⟩ = some old) (hz : w.frozen? ⟨g, k, none⟩ = false) :
    Calls Try.prog 24 #[.pointer (some ⟨g, 0, none⟩), .int .i64 i, .string s] w fun e w' => e = .returned (.bool true) ∧ w.setCell ⟨g, k, none⟩ (.string s) = w' := by
  have HP := Lib.hid hp
  clear hp
  have hidx : (0 : Int) ≤ (k : Int) ∧ (k : Int) < 256 := by omega
  have hneg : ¬ (k : Int) < 0 := by omega
  go_enter Try.func24, Try.ntmps24
  go_wp2_with fail
  refine HP.out.mono ?_
  rintro e w' ⟨rfl, rfl⟩
  go_wp2
  go_ret
  exact ⟨rfl, rfl⟩

theorem put_out (g : Nat) (i : Int) (s : ByteArray) (w : World) (hp : Calls Try.prog 31 #[.pointer (some ⟨g, 0, none⟩), .int .i64 i] w fun e w' => e = .returned (.int .i64 (-1)) ∧ w = w') :
    Calls Try.prog 24 #[.pointer (some ⟨g, 0, none⟩), .int .i64 i, .string s] w fun e w' => e = .returned (.bool false) ∧ w = w' := by
  have HP := Lib.hid hp
  clear hp
  go_enter Try.func24, Try.ntmps24
  go_wp2_with fail
  refine HP.out.mono ?_
  rintro e w' ⟨rfl, rfl⟩
  go_wp2
  go_ret
  exact ⟨rfl, rfl⟩
end Go.Proofs.Ytemacgcklgdhpaa
