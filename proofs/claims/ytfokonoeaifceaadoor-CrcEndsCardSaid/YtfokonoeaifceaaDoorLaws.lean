/- The walks of the laws of the sum. -/
import Derived.Test.YtfokonoeaifceaaDoorWalk
import Derived.Deep.QuietTactic
import Derived.BigQuiet
import Derived.Deep.RegionWith
import Derived.Lib.SlBytesConst
namespace Go.Proofs.YtfokonoeaifceaaDoor
open Go.RowKit CrcM

theorem bytesAt_below {B : Nat} {w w' : World} (h : Below B w w') {b off cap : Nat} {l : List Int} (hb : b < B)
    (hc : ∀ i, i < l.length → w.cell? ⟨b, off + i, none⟩ = some (.int .u8 (l.getD i 0))) : BytesAt w' (.slice (some ⟨b, off, none⟩) l.length cap) l :=
  .inr ⟨b, off, cap, rfl, fun i hi => (h.cell (p := ⟨b, off + i, none⟩) hb).trans (hc i hi)⟩

/-- The nine digits. -/
def nine : List Int := [49, 50, 51, 52, 53, 54, 55, 56, 57]

theorem TabAt.below {B : Nat} {w w' : World} (h : Below B w w') (hB : 0 < B) (ht : TabAt w) : TabAt w' :=
  fun i hi => (h.cell (p := ⟨0, i, none⟩) hB).trans (ht i hi)

theorem alive_true (w : World) (ht : TabAt w) (hB : 0 < w.heap.size) :
    Calls Tryd.prog 11 #[] w fun e w' => e = .returned (.bool true) ∧ Below w.heap.size w w' := by
  have kc := fun (w : World) (C : Array Value) (n c : Nat) => Lib.run_convert_bytes_const (P := Tryd.prog) w 22 5 C n c Tryd.underlying22 Tryd.underlying5
  have hb : Below w.heap.size w (w.alloc (Obj.cells #[.int .u8 49, .int .u8 50, .int .u8 51, .int .u8 52, .int .u8 53, .int .u8 54, .int .u8 55, .int .u8 56, .int .u8 57] 5 (9, 10))) := (Below.refl _ _).alloc (Nat.le_refl _) _
  have hs := sum_bytes (.slice (some ⟨w.heap.size, 0, none⟩) 9 9) nine (w.alloc (Obj.cells #[.int .u8 49, .int .u8 50, .int .u8 51, .int .u8 52, .int .u8 53, .int .u8 54, .int .u8 55, .int .u8 56, .int .u8 57] 5 (9, 10)))
    (.inr ⟨_, 0, 9, rfl, fun i hi => by
      have hi' : i < 9 := hi
      rw [Nat.zero_add, World.cell?_alloc_mark]
      rcases (show i = 0 ∨ i = 1 ∨ i = 2 ∨ i = 3 ∨ i = 4 ∨ i = 5 ∨ i = 6 ∨ i = 7 ∨ i = 8 by omega) with rfl | rfl | rfl | rfl | rfl | rfl | rfl | rfl | rfl <;> rfl⟩)
    (by decide) (by unfold nine isByte; simp) (TabAt.below hb hB ht)
  rw [show crc 0 nine = 0x31c3#16 from alive_sum] at hs
  have HS := Lib.hid hs
  have HBB := Lib.hid hb
  clear hs ht hb
  go_enter Tryd.func11, Tryd.ntmps11
  go_wp2_with fail
  refine HS.out.mono ?_
  rintro e w' ⟨rfl, rfl⟩
  go_wp2
  go_ret
  exact ⟨rfl, HBB.out⟩

set_option maxHeartbeats 400000 in
theorem sums_walk (v : Value) (l : List Int) (w : World) (hv : ∀ w', Below w.heap.size w w' → BytesAt w' v l) (hlen : l.length ≤ 140737488355328) (hb : ∀ x ∈ l, isByte x) (ht : TabAt w) (hB : 0 < w.heap.size) :
    Calls Tryd.prog 3 #[v] w fun e w' => e = .returned (.bool true) ∧ Below w.heap.size w w' := by
  have HA := Lib.hid (alive_true w ht hB)
  have H1 := Lib.hid (fun (w' : World) (h : Below w.heap.size w w') => sum_bytes v l w' (hv w' h) hlen hb (ht.below h hB))
  have H2 := Lib.hid (fun (w' : World) (h : Below w.heap.size w w') => rsum_bytes v l w' (hv w' h) hlen hb)
  clear hv hlen hb ht
  go_enter Tryd.func3, Tryd.ntmps3
  go_wp2_with fail
  refine HA.out.mono ?_
  rintro e w1 ⟨rfl, hb1⟩
  have HB1 := Lib.hid hb1; clear hb1
  go_wp2_with fail
  refine (H1.out w1 HB1.out).mono ?_
  rintro e w' ⟨rfl, rfl⟩
  go_wp2_with fail
  refine (H2.out w1 HB1.out).mono ?_
  rintro e w' ⟨rfl, rfl⟩
  go_wp2
  go_ret
  exact ⟨rfl, HB1.out⟩
end Go.Proofs.YtfokonoeaifceaaDoor
