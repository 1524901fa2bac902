/- The walks of the laws. -/
import Derived.Test.YtemacgcklgdhpaaPlays
namespace Go.Proofs.Ytemacgcklgdhpaa
open Go.RowKit

/-- a script that came in -/
def OpsIn (w : World) (sv : Value) (os : List O) : Prop :=
  ∃ sp cap, sv = .slice sp os.length cap ∧ (∀ o ∈ os, o.Ok) ∧ (0 < os.length → ∃ b off, sp = some ⟨b, off, none⟩ ∧ b < w.heap.size ∧ ∀ i, i < os.length →
    w.cell? ⟨b, off + i * 5, none⟩ = some (.int .i64 (os.getD i default).kind) ∧ w.cell? ⟨b, off + i * 5 + 1, none⟩ = some (.int .i64 (os.getD i default).a) ∧ w.cell? ⟨b, off + i * 5 + 2, none⟩ = some (.int .i64 (os.getD i default).b) ∧
      w.cell? ⟨b, off + i * 5 + 3, none⟩ = some (.bool (os.getD i default).front) ∧ w.cell? ⟨b, off + i * 5 + 4, none⟩ = some (.string (os.getD i default).s))

theorem OpsIn.at {w w' : World} {sv : Value} {os : List O} {g : Nat} (h : OpsIn w sv os) (hb : Below w.heap.size w w') (hg : w.heap.size ≤ g) : OpsAt w' g sv os := by
  obtain ⟨sp, cap, rfl, hok, hc⟩ := h
  refine ⟨sp, cap, rfl, hok, fun h0 => ?_⟩
  obtain ⟨b, off, rfl, hbw, hcc⟩ := hc h0
  have hs := hb.size
  have hcell : ∀ j, w'.cell? ⟨b, j, none⟩ = w.cell? ⟨b, j, none⟩ := fun j => hb.cell (p := ⟨b, j, none⟩) hbw
  refine ⟨b, off, rfl, by omega, by omega, fun i hi => ?_⟩
  simp only [hcell]
  exact hcc i hi

/-- texts that came in -/
def StrsIn (w : World) (v : Value) (l : List ByteArray) : Prop :=
  ∃ sp cap, v = .slice sp l.length cap ∧ (0 < l.length → ∃ b off, sp = some ⟨b, off, none⟩ ∧ b < w.heap.size ∧ ∀ i, i < l.length → w.cell? ⟨b, off + i, none⟩ = some (.string (l.getD i emptyS)))

theorem nil_strs (w : World) : StrsAt w (.slice none 0 0) [] := .inl ⟨rfl, .inl rfl⟩

set_option maxHeartbeats 800000 in
theorem all_walk {w : World} {sv : Value} {os : List O} (h : OpsIn w sv os) : Calls Try.prog 5 #[sv] w fun e w' => e = .returned (.bool true) ∧ Below w.heap.size w w' := by
  obtain ⟨sp, cap, rfl, _⟩ := id h
  have H := Lib.hid h
  clear h
  by_cases hn : os.length ≤ 2000
  · have hnI : ¬ (2000 : Int) < os.length := by omega
    go_enter Try.func5, Try.ntmps5
    go_wp2_with fail
    refine (dq_new w).mono ?_
    rintro e w1 ⟨rfl, hd, hb, hsz⟩
    have HD1 := Lib.hid hd
    have HB1 := Lib.hid hb
    clear hd hb
    go_wp2_with fail
    refine (plays_walk HD1.out (nil_strs w1) (H.out.at HB1.out (Nat.le_refl _)) hn).mono ?_
    rintro e w2 ⟨v, rfl, hd, hs, ho⟩
    have HD2 := Lib.hid hd
    have HS2 := Lib.hid hs
    have g2 := ho.size
    have HB2 := Lib.hid (ho.new HB1.out (Nat.le_refl _) (by omega))
    have HL := Lib.hid hd.le
    clear hd hs ho
    go_wp2_with fail
    refine (alive_walk w2).mono ?_
    rintro e w3 ⟨rfl, hb⟩
    have HD3 := Lib.hid (HD2.out.below hb)
    have HS3 := Lib.hid (HS2.out.below hb)
    have HB3 := Lib.hid (HB2.out.trans (hb.mono (by omega)))
    have g3 := hb.size
    clear hb
    go_wp2_with fail
    refine (dq_range HD3.out 0 (-1) (by decide) (by decide)).mono ?_
    rintro e w4 ⟨v4, rfl, hs, hb⟩
    rw [ranged_all] at hs
    have HS4 := Lib.hid hs
    have HS34 := Lib.hid (HS3.out.below hb)
    have HB4 := Lib.hid (HB3.out.trans (hb.mono (by omega)))
    have g4 := hb.size
    clear hs hb
    go_wp2_with fail
    refine (same_walk HS4.out HS34.out HL.out).mono ?_
    rintro e w5 ⟨rfl, hb⟩
    have HB5 := Lib.hid (HB4.out.trans (hb.mono (by omega)))
    clear hb
    go_wp2
    go_ret
    exact ⟨rfl, HB5.out⟩
  · have hnI : (2000 : Int) < os.length := by omega
    go_enter Try.func5, Try.ntmps5
    go_wp2_with fail
    refine (dq_new w).mono ?_
    rintro e w1 ⟨rfl, _, hb, hsz⟩
    have HB1 := Lib.hid hb
    clear hb
    go_wp2_with fail
    refine (alive_walk w1).mono ?_
    rintro e w2 ⟨rfl, hb⟩
    have HB2 := Lib.hid (HB1.out.trans (hb.mono (by omega)))
    clear hb
    go_wp2
    go_ret
    exact ⟨rfl, HB2.out⟩
end Go.Proofs.Ytemacgcklgdhpaa
