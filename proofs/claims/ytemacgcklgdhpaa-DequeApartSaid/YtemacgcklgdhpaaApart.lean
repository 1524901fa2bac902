/- The walk of DequeApart. -/
import Derived.Test.YtemacgcklgdhpaaLaws
namespace Go.Proofs.Ytemacgcklgdhpaa
open Go.RowKit

theorem Dq.kind {w : World} {g : Nat} {l : List ByteArray} (h : Dq w g l) : ∃ cs t fr, w.heap[g]? = some (.cells cs t fr) ∧ t ≠ 9 := by
  obtain ⟨cs, f, hh, _⟩ := h
  exact ⟨_, _, _, hh, by decide⟩

set_option maxHeartbeats 800000 in
theorem apart_walk {w : World} {sv sv2 : Value} {os qs : List O} (h : OpsIn w sv os) (h2 : OpsIn w sv2 qs) :
    Calls Try.prog 8 #[sv, sv2] w fun e w' => e = .returned (.bool true) ∧ Below w.heap.size w w' := by
  obtain ⟨sp, cap, rfl, _⟩ := id h
  obtain ⟨sp2, cap2, rfl, _⟩ := id h2
  have H := Lib.hid h
  have H2 := Lib.hid h2
  clear h h2
  by_cases hn : os.length ≤ 1000 ∧ qs.length ≤ 1000
  · obtain ⟨hn, hq⟩ := hn
    have hnI : ¬ (1000 : Int) < os.length := by omega
    have hqI : ¬ (1000 : Int) < qs.length := by omega
    go_enter Try.func8, Try.ntmps8
    go_wp2_with fail
    refine (dq_new w).mono ?_
    rintro e w1 ⟨rfl, hd, hb, hsz⟩
    have HD1 := Lib.hid hd
    have HB1 := Lib.hid hb
    clear hd hb
    go_wp2_with fail
    refine (plays_walk HD1.out (nil_strs w1) (H.out.at HB1.out (Nat.le_refl _)) (by omega)).mono ?_
    rintro e w2 ⟨v, rfl, hd, hs, ho⟩
    have HD2 := Lib.hid hd
    have HS2 := Lib.hid hs
    have g2 := ho.size
    have HB2 := Lib.hid (ho.new HB1.out (Nat.le_refl _) (by omega))
    have HL := Lib.hid hd.le
    have HLL := Lib.hid (playL_le (playL [] os) qs hd.le)
    clear hd hs ho
    generalize playL [] os = L at *
    go_wp2_with fail
    refine (dq_clone HD2.out).mono ?_
    rintro e w3 ⟨rfl, hd, hb, hlt⟩
    have HD3 := Lib.hid (HD2.out.below hb)
    have HC3 := Lib.hid hd
    have HS3 := Lib.hid (HS2.out.below hb)
    have HB3 := Lib.hid (HB2.out.trans (hb.mono (by omega)))
    have hcg : w.heap.size < w2.heap.size := by omega
    clear hd hb
    generalize hc : w2.heap.size = c at *
    go_wp2_with fail
    refine (plays_walk HC3.out HS3.out (H2.out.at HB3.out (by omega)) (by omega)).mono ?_
    rintro e w4 ⟨v4, rfl, hd, hs, ho⟩
    have HD4 := Lib.hid (HD3.out.only ho (by omega))
    have HC4 := Lib.hid hd
    have HS4 := Lib.hid (HS3.out.only ho HC3.out.kind)
    have HT4 := Lib.hid hs
    have g4 := ho.size
    have HB4 := Lib.hid (ho.new HB3.out (by omega) (by omega))
    clear hd hs ho
    go_wp2_with fail
    refine (dq_range HD4.out 0 (-1) (by decide) (by decide)).mono ?_
    rintro e w5 ⟨v5, rfl, hs, hb⟩
    rw [ranged_all] at hs
    have HR5 := Lib.hid hs
    have HD5 := Lib.hid (HD4.out.below hb)
    have HC5 := Lib.hid (HC4.out.below hb)
    have HS5 := Lib.hid (HS4.out.below hb)
    have HT5 := Lib.hid (HT4.out.below hb)
    have HB5 := Lib.hid (HB4.out.trans (hb.mono (by omega)))
    have g5 := hb.size
    clear hs hb
    go_wp2_with fail
    refine (same_walk HR5.out HS5.out HL.out).mono ?_
    rintro e w6 ⟨rfl, hb⟩
    have HD6 := Lib.hid (HD5.out.below hb)
    have HC6 := Lib.hid (HC5.out.below hb)
    have HS6 := Lib.hid (HS5.out.below hb)
    have HT6 := Lib.hid (HT5.out.below hb)
    have HB6 := Lib.hid (HB5.out.trans (hb.mono (by omega)))
    have g6 := hb.size
    clear hb
    go_wp2_with fail
    refine (plays_walk HD6.out HS6.out (H2.out.at HB6.out (Nat.le_refl _)) (by omega)).mono ?_
    rintro e w7 ⟨v7, rfl, hd, hs, ho⟩
    have HD7 := Lib.hid hd
    have HC7 := Lib.hid (HC6.out.only ho (by omega))
    have HT7 := Lib.hid (HT6.out.only ho HD6.out.kind)
    have HU7 := Lib.hid hs
    have g7 := ho.size
    have HB7 := Lib.hid (ho.new HB6.out (Nat.le_refl _) (by omega))
    clear hd hs ho
    generalize playL L qs = M at *
    go_wp2_with fail
    refine (alive_walk w7).mono ?_
    rintro e w8 ⟨rfl, hb⟩
    have HD8 := Lib.hid (HD7.out.below hb)
    have HC8 := Lib.hid (HC7.out.below hb)
    have HT8 := Lib.hid (HT7.out.below hb)
    have HU8 := Lib.hid (HU7.out.below hb)
    have HB8 := Lib.hid (HB7.out.trans (hb.mono (by omega)))
    have g8 := hb.size
    clear hb
    go_wp2_with fail
    refine (dq_range HC8.out 0 (-1) (by decide) (by decide)).mono ?_
    rintro e w9 ⟨v9, rfl, hs, hb⟩
    rw [ranged_all] at hs
    have HR9 := Lib.hid hs
    have HD9 := Lib.hid (HD8.out.below hb)
    have HT9 := Lib.hid (HT8.out.below hb)
    have HU9 := Lib.hid (HU8.out.below hb)
    have HB9 := Lib.hid (HB8.out.trans (hb.mono (by omega)))
    have g9 := hb.size
    clear hs hb
    go_wp2_with fail
    refine (same_walk HR9.out HT9.out HLL.out).mono ?_
    rintro e wa ⟨rfl, hb⟩
    have HDa := Lib.hid (HD9.out.below hb)
    have HUa := Lib.hid (HU9.out.below hb)
    have HBa := Lib.hid (HB9.out.trans (hb.mono (by omega)))
    have ga := hb.size
    clear hb
    go_wp2_with fail
    refine (dq_range HDa.out 0 (-1) (by decide) (by decide)).mono ?_
    rintro e wb ⟨vb, rfl, hs, hb⟩
    rw [ranged_all] at hs
    have HRb := Lib.hid hs
    have HUb := Lib.hid (HUa.out.below hb)
    have HBb := Lib.hid (HBa.out.trans (hb.mono (by omega)))
    have gb := hb.size
    clear hs hb
    go_wp2_with fail
    refine (same_walk HRb.out HUb.out HLL.out).mono ?_
    rintro e wc ⟨rfl, hb⟩
    have HBc := Lib.hid (HBb.out.trans (hb.mono (by omega)))
    clear hb
    go_wp2
    go_ret
    exact ⟨rfl, HBc.out⟩
  · by_cases h1 : os.length ≤ 1000
    · have hnI : ¬ (1000 : Int) < os.length := by omega
      have hqI : (1000 : Int) < qs.length := by omega
      go_enter Try.func8, Try.ntmps8
      go_wp2_with fail
      refine (dq_new w).mono ?_
      rintro e w1 ⟨rfl, _, hb, hsz⟩
      have HB1 := Lib.hid hb
      clear hb
      go_wp2_with fail
      refine (alive_walk w1).mono ?_
      rintro e w2 ⟨rfl, hb⟩
      have HB2 := Lib.hid (HB1.out.trans (hb.mono (by omega)))
      clear hb
      go_wp2
      go_ret
      exact ⟨rfl, HB2.out⟩
    · have hnI : (1000 : Int) < os.length := by omega
      go_enter Try.func8, Try.ntmps8
      go_wp2_with fail
      refine (dq_new w).mono ?_
      rintro e w1 ⟨rfl, _, hb, hsz⟩
      have HB1 := Lib.hid hb
      clear hb
      go_wp2_with fail
      refine (alive_walk w1).mono ?_
      rintro e w2 ⟨rfl, hb⟩
      have HB2 := Lib.hid (HB1.out.trans (hb.mono (by omega)))
      clear hb
      go_wp2
      go_ret
      exact ⟨rfl, HB2.out⟩
end Go.Proofs.Ytemacgcklgdhpaa
