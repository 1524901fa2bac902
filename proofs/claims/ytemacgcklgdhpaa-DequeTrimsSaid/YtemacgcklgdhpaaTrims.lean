/- The walk of DequeTrims. -/
import Derived.Test.YtemacgcklgdhpaaLaws
namespace Go.Proofs.Ytemacgcklgdhpaa
open Go.RowKit

set_option maxHeartbeats 800000 in
theorem trims_walk {w : World} {sv : Value} {os : List O} (h : OpsIn w sv os) (a b : Int) (ha : -9223372036854775808 ≤ a) (hb : -9223372036854775808 ≤ b) :
    Calls Try.prog 7 #[sv, .int .i64 a, .int .i64 b] w fun e w' => e = .returned (.bool true) ∧ Below w.heap.size w w' := by
  obtain ⟨sp, cap, rfl, _⟩ := id h
  have H := Lib.hid h
  clear h
  by_cases hn : os.length ≤ 1000
  · have hnI : ¬ (1000 : Int) < os.length := by omega
    go_enter Try.func7, Try.ntmps7
    go_wp2_with fail
    refine (dq_new w).mono ?_
    rintro e w1 ⟨rfl, hd, hb, hsz⟩
    have HD1 := Lib.hid hd
    have HB1 := Lib.hid hb
    clear hd hb
    go_wp2_with fail
    refine (plays_walk HD1.out (nil_strs w1) (H.out.at HB1.out (Nat.le_refl _)) (by omega)).mono ?_
    rintro e w2 ⟨v, rfl, hd, hs, ho⟩
    have HD2 := Lib.hid hd
    have g2 := ho.size
    have HB2 := Lib.hid (ho.new HB1.out (Nat.le_refl _) (by omega))
    have HL := Lib.hid (Nat.le_trans (ranged_le (playL [] os) a b) hd.le)
    clear hd hs ho
    generalize playL [] os = L at *
    go_wp2_with fail
    refine (dq_range HD2.out a b ha hb).mono ?_
    rintro e w3 ⟨v3, rfl, hs, hb⟩
    obtain ⟨sp3, cap3, rfl, _⟩ := hs.form
    have HS3 := Lib.hid hs
    have HD3 := Lib.hid (HD2.out.below hb)
    have HB3 := Lib.hid (HB2.out.trans (hb.mono (by omega)))
    have g3 := hb.size
    clear hs hb
    go_wp2_with fail
    refine (dq_trim HD3.out a b ha (by assumption)).mono ?_
    rintro e w4 ⟨rfl, hd, ho⟩
    have hdk : ∃ cs t fr, w3.heap[w.heap.size]? = some (.cells cs t fr) ∧ t ≠ 9 := by
      obtain ⟨cs, f, hh, _⟩ := HD3.out
      exact ⟨_, _, _, hh, by decide⟩
    have HS4 := Lib.hid (HS3.out.only ho hdk)
    have HD4 := Lib.hid hd
    have g4 := ho.size
    have HB4 := Lib.hid (ho.new HB3.out (Nat.le_refl _) (by omega))
    clear hd ho hdk
    generalize ranged L a b = R at *
    go_wp2_with fail
    refine (alive_walk w4).mono ?_
    rintro e w5 ⟨rfl, hb⟩
    have HS5 := Lib.hid (HS4.out.below hb)
    have HD5 := Lib.hid (HD4.out.below hb)
    have HB5 := Lib.hid (HB4.out.trans (hb.mono (by omega)))
    have g5 := hb.size
    clear hb
    go_wp2_with fail
    refine (dq_range HD5.out 0 (-1) (by decide) (by decide)).mono ?_
    rintro e w6 ⟨v6, rfl, hs, hb⟩
    rw [ranged_all] at hs
    have HS6 := Lib.hid hs
    have HS56 := Lib.hid (HS5.out.below hb)
    have HD6 := Lib.hid (HD5.out.below hb)
    have HB6 := Lib.hid (HB5.out.trans (hb.mono (by omega)))
    have g6 := hb.size
    clear hs hb
    go_wp2_with fail
    refine (same_walk HS6.out HS56.out HL.out).mono ?_
    rintro e w7 ⟨rfl, hb⟩
    have HD7 := Lib.hid (HD6.out.below hb)
    have HB7 := Lib.hid (HB6.out.trans (hb.mono (by omega)))
    clear hb
    go_wp2_with fail
    refine (dq_len HD7.out).mono ?_
    rintro e w' ⟨rfl, rfl⟩
    go_wp2
    go_ret
    exact ⟨rfl, HB7.out⟩
  · have hnI : (1000 : Int) < os.length := by omega
    go_enter Try.func7, Try.ntmps7
    go_wp2_with fail
    refine (dq_new w).mono ?_
    rintro e w1 ⟨rfl, _, hb, hsz⟩
    have HB1 := Lib.hid hb
    clear hb
    go_wp2_with fail
    refine (alive_walk w1).mono ?_
    rintro e w2 ⟨rfl, hb⟩
    have HB2 := Lib.hid (HB1.out.trans (hb.mono (by omega)))
    clear hb
    go_wp2
    go_ret
    exact ⟨rfl, HB2.out⟩
end Go.Proofs.Ytemacgcklgdhpaa
