/- The walk of Range. -/
import Derived.Test.YtemacgcklgdhpaaStrs
import Derived.Test.YtemacgcklgdhpaaClamp
import Derived.Deep.RegionHeld3
import Derived.Deep.AppendLies
namespace Go.Proofs.Ytemacgcklgdhpaa
open Go.RowKit

set_option maxRecDepth 100000 in
set_option maxHeartbeats 1600000 in
theorem range_walk (g f : Nat) (l : List ByteArray) (a b : Int) (A B : Nat) (w : World) (h6 : w.cell? ⟨g, 256, none⟩ = some (.int .i64 f)) (h7 : w.cell? ⟨g, 257, none⟩ = some (.int .i64 l.length))
    (hf : f < 256) (hl : l.length ≤ 256) (hc : ∀ i, i < l.length → w.cell? ⟨g, (f + i) % 256, none⟩ = some (.string (l.getD i emptyS)))
    (ha : -9223372036854775808 ≤ a) (hb : -9223372036854775808 ≤ b) (hA : clampA a b l.length = A) (hB : clampB a b l.length = B) :
    Calls Try.prog 16 #[.pointer (some ⟨g, 0, none⟩), .int .i64 a, .int .i64 b] w fun e w' => ∃ v, e = .returned v ∧ StrsAt w' v (sub l A B) ∧ Below w.heap.size w w' := by
  have hbd := clamp_bounds a b l.length (by omega)
  have hclamp := clamp_any a b l.length w ha hb (by omega) (by omega)
  rw [hA, hB] at hclamp hbd
  have HC := Lib.hid hclamp
  have HR := Lib.hid hc
  have hAB : A ≤ B := by omega
  have hBl : B ≤ l.length := by omega
  have hgs : g < w.heap.size := block_lt_of_cell h7
  clear hclamp hc hbd hA hB
  have H6 := Lib.hid h6
  go_enter Try.func16, Try.ntmps16
  go_wp2_with fail
  refine HC.out.mono ?_
  rintro e w' ⟨rfl, rfl⟩
  go_wp2_with fail
  go_loopw [9, 10] (fun v i wr => ∃ k : Nat, A ≤ k ∧ k ≤ B ∧ i = .int .i64 k ∧ wr.ownsRow w.heap.size 9 1 v (k - A) (strVals (sub l A k)) ∧ Below w.heap.size w wr) (fun _ i _ => B - (intOf i).toNat)
  case atStart => exact ⟨A, Nat.le_refl _, hAB, rfl, by rw [Nat.sub_self, sub_nil]; exact World.ownsRow_nil _ _ _ _, Below.refl _ _⟩
  case round =>
    obtain ⟨k, hk1, hk2, rfl, hown, hbel⟩ := hrel
    have HO := Lib.hid hown
    have HB := Lib.hid hbel
    have hsz := hbel.size
    clear hown hbel h6 h7
    by_cases hlt : k < B
    · obtain ⟨j, hj⟩ : ∃ j, j = (f + k) % 256 := ⟨_, rfl⟩
      obtain ⟨s, hs⟩ : ∃ s, s = l.getD k emptyS := ⟨_, rfl⟩
      have h6 : wr.cell? ⟨g, 256, none⟩ = some (.int .i64 f) := (HB.out.cell (p := ⟨g, 256, none⟩) hgs).trans H6.out
      have hcs : wr.cell? ⟨g, j, none⟩ = some (.string s) := by rw [hj, hs]; exact (HB.out.cell (p := ⟨g, (f + k) % 256, none⟩) hgs).trans (HR.out k (by omega))
      have hcell := fun (u : World) (hu : u.cell? ⟨g, 256, none⟩ = some (.int .i64 f)) => cell_any g f k u hu hf (by omega)
      rw [← hj] at hcell
      have HCell := Lib.hid hcell
      have hidx : (0 : Int) ≤ (j : Int) ∧ (j : Int) < 256 := by omega
      have hsn := sub_snoc l A k hk1 (by omega)
      rw [← hs] at hsn
      have HS := Lib.hid hsn
      have hob : ∀ g', u9.ownBlock = some g' → w.heap.size ≤ g' := by
        intro g' hg'
        rcases HO.out.2 with ⟨rfl, _⟩ | ⟨g2, cap, cur, rfl, hgB, _⟩
        · simp [Value.ownBlock] at hg'
        · simp [Value.ownBlock] at hg'; omega
      have ag : u9.ownBlock ≠ some g := fun h => by have := hob g h; omega
      have HOb := Lib.hid hob
      obtain ⟨i0, hi0, hz0, hz1, hz2⟩ := info_parts Try.info9
      have lg : g < wr.heap.size := by omega
      clear hcell hj hs hsn hob
      go_wp2_with fail
      go_region_held3 (fun w' => w'.cell? ⟨g, 256, none⟩ = some (.int .i64 f) ∧ w'.cell? ⟨g, j, none⟩ = some (.string s))
        (first
          | go_keep
          | (go_split_ands
             refine ⟨?_, ?_⟩
             · (rw [hgrow.cell_far _ (by simp; omega) (Ne.symm ag)]; assumption)
             · (rw [hgrow.cell_far _ (by simp; omega) (Ne.symm ag)]; assumption)))
        (first
          | (go_at_call 20; refine (HCell.out _ (by assumption)).mono ?_; rintro e w' ⟨rfl, rfl⟩)
          | (refine step_append_lies _ (by rfl) _ _ _ (by rfl) w.heap.size 9 i0 _ 1 16 Try.underlying22 hi0 hz0 hz1 hz2 rfl (by omega) u9 (k - A) _ (by rfl) ((HO.out.alloc _).drew)
              ⟨wr.heap.size, 0, none⟩ 1 1 [.string s] (by rfl) (by rfl) (World.news_of_block (cs := #[.string s]) (t := 9) (fr := (0, 0)) (heap_alloc_new wr _)) (by simp [Value.oneCell'])
              (by omega) (by unfold maxLen; omega) (by omega) (by simp; omega) (wr.heap.size + 1) (by simp) ?_; intro gg cap w1 hown1 hgrow hat hlt1))
      go_wp2_with fail
      go_roundw
      case rel =>
        refine ⟨k + 1, by omega, by omega, by go_num, ?_, ((HB.out.alloc hsz _).drew).grown hgrow (by simp; omega) (fun q hq => HOb.out q hq)⟩
        rw [show k + 1 - A = k - A + 1 by omega, HS.out]
        simpa [strVals] using hown1
      case measure => simp [intOf]; omega
    · have hkB : k = B := by omega
      subst hkB
      go_wp2
      go_ret
      refine ⟨_, rfl, strsAt_own (B := w.heap.size) ?_, HB.out⟩
      rw [sub_length l A k hBl]
      exact HO.out
end Go.Proofs.Ytemacgcklgdhpaa
