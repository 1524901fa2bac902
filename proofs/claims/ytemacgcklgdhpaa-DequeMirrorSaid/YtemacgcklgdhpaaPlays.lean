/- The walk of plays: a script on the deque and on the document's row. -/
import Derived.Test.YtemacgcklgdhpaaSame
namespace Go.Proofs.Ytemacgcklgdhpaa
open Go.RowKit

instance : Inhabited O := ⟨⟨0, 0, 0, false, emptyS⟩⟩

/-- a script in memory, not in block g -/
def OpsAt (w : World) (g : Nat) (sv : Value) (os : List O) : Prop :=
  ∃ sp cap, sv = .slice sp os.length cap ∧ (∀ o ∈ os, o.Ok) ∧ (0 < os.length → ∃ b off, sp = some ⟨b, off, none⟩ ∧ b < w.heap.size ∧ b ≠ g ∧ ∀ i, i < os.length →
    w.cell? ⟨b, off + i * 5, none⟩ = some (.int .i64 (os.getD i default).kind) ∧ w.cell? ⟨b, off + i * 5 + 1, none⟩ = some (.int .i64 (os.getD i default).a) ∧ w.cell? ⟨b, off + i * 5 + 2, none⟩ = some (.int .i64 (os.getD i default).b) ∧
      w.cell? ⟨b, off + i * 5 + 3, none⟩ = some (.bool (os.getD i default).front) ∧ w.cell? ⟨b, off + i * 5 + 4, none⟩ = some (.string (os.getD i default).s))

def playL (l : List ByteArray) (os : List O) : List ByteArray := os.foldl doL l

theorem playL_le (l : List ByteArray) (os : List O) (h : l.length ≤ 256) : (playL l os).length ≤ 256 := by
  induction os generalizing l with
  | nil => exact h
  | cons o os ih => exact ih _ (doL_le l o h)

theorem playL_snoc (l : List ByteArray) (os : List O) (k : Nat) (h : k < os.length) : playL l (os.take (k + 1)) = doL (playL l (os.take k)) (os.getD k default) := by
  unfold playL
  rw [List.take_add_one, List.foldl_append, List.getElem?_eq_getElem h]
  simp [List.getD, List.getElem?_eq_getElem h]

/-- a box that holds one call -/
structure Box5 (w : World) (g : Nat) (o : O) : Prop where
  heap : w.heap[g]? = some (.cells #[.int .i64 o.kind, .int .i64 o.a, .int .i64 o.b, .bool o.front, .string o.s] 39 (0, 0))
theorem Box5.only {w w' : World} {g n : Nat} {o : O} (h : Box5 w g o) (ho : Only w w' n) (hne : g ≠ n) : Box5 w' g o :=
  ⟨(ho.block g (by rcases Nat.lt_or_ge g w.heap.size with h1 | h1; exact h1; have := h.heap; rw [Array.getElem?_eq_none h1] at this; cases this) (by simpa using hne)).trans h.heap⟩
theorem Box5.below {w w' : World} {g n : Nat} {o : O} (h : Box5 w g o) (hb : Below n w w') (hg : g < n) : Box5 w' g o := ⟨(hb.block g hg).trans h.heap⟩
theorem Box5.cells {w : World} {g : Nat} {o : O} (h : Box5 w g o) : w.cell? ⟨g, 0, none⟩ = some (.int .i64 o.kind) ∧ w.cell? ⟨g, 1, none⟩ = some (.int .i64 o.a) ∧ w.cell? ⟨g, 2, none⟩ = some (.int .i64 o.b) ∧ w.cell? ⟨g, 3, none⟩ = some (.bool o.front) ∧ w.cell? ⟨g, 4, none⟩ = some (.string o.s) := by
  refine ⟨?_, ?_, ?_, ?_, ?_⟩ <;> (rw [cell_of_row w g _ _ 39 (0, 0) h.heap]; rfl)

set_option maxHeartbeats 1600000 in
theorem plays_walk {w : World} {g : Nat} {v sv : Value} {l : List ByteArray} {os : List O} (hd : Dq w g l) (hs : StrsAt w v l) (ho : OpsAt w g sv os) (hn : os.length ≤ 2000) :
    Calls Try.prog 14 #[.pointer (some ⟨g, 0, none⟩), v, sv] w fun e w' => ∃ v', e = .returned (.tuple #[v', .bool true]) ∧ Dq w' g (playL l os) ∧ StrsAt w' v' (playL l os) ∧ Only w w' g := by
  obtain ⟨sp, cap, rfl, hok, hc⟩ := ho
  have HD := Lib.hid hd
  have HS := Lib.hid hs
  have HOk := Lib.hid hok
  have HC := Lib.hid hc
  have hgs := hd.lt
  have HLe := Lib.hid hd.le
  clear hd hs hok hc
  go_enter Try.func14, Try.ntmps14
  go_wp2_with fail
  go_loopw [1, 15] (fun v i wr => ∃ k : Nat, k ≤ os.length ∧ i = .int .i64 k ∧ StrsAt wr v (playL l (os.take k)) ∧ Dq wr g (playL l (os.take k)) ∧ Only w wr g) (fun _ i _ => os.length - (intOf i).toNat)
  case atStart => exact ⟨0, Nat.zero_le _, rfl, HS.out, HD.out, Only.refl _ _⟩
  case round =>
    obtain ⟨k, hk, rfl, hs, hd, ho⟩ := hrel
    have HSk := Lib.hid hs
    have HDk := Lib.hid hd
    have HOk' := Lib.hid ho
    have hsz := ho.size
    clear hs hd ho
    by_cases hlt : k < os.length
    · have HP := Lib.hid (playL_snoc l os k hlt)
      have HL := Lib.hid (playL_le l (os.take k) HLe.out)
      obtain ⟨bs, off, rfl, hbs, hbg, hcc⟩ := HC.out (by omega)
      obtain ⟨c0, c1, c2, c3, c4⟩ := hcc k hlt
      have hblk := HOk'.out.block bs hbs (by simpa using hbg)
      have HokK := Lib.hid (HOk.out (os.getD k default) (by simp [List.getD, List.getElem?_eq_getElem hlt]))
      generalize os.getD k default = o at *
      generalize playL l (os.take k) = L at *
      obtain ⟨kind, a, b, front, s⟩ := o
      simp only at c0 c1 c2 c3 c4
      have e0 := (World.cell?_of_block (w := w) (a := ⟨bs, off + k * 5, none⟩) hblk).trans c0
      have e1 := (World.cell?_of_block (w := w) (a := ⟨bs, off + k * 5 + 1, none⟩) hblk).trans c1
      have e2 := (World.cell?_of_block (w := w) (a := ⟨bs, off + k * 5 + 2, none⟩) hblk).trans c2
      have e3 := (World.cell?_of_block (w := w) (a := ⟨bs, off + k * 5 + 3, none⟩) hblk).trans c3
      have e4 := (World.cell?_of_block (w := w) (a := ⟨bs, off + k * 5 + 4, none⟩) hblk).trans c4
      have hki : (0 : Int) ≤ (k : Int) ∧ (k : Int) < os.length := by omega
      have hgr : g < wr.heap.size := by omega
      have hbA : Below wr.heap.size wr (wr.alloc (.cells #[.int .i64 kind, .int .i64 a, .int .i64 b, .bool front, .string s] 39)) := (Below.refl _ _).alloc (Nat.le_refl _) _
      have hbox : Box5 (wr.alloc (.cells #[.int .i64 kind, .int .i64 a, .int .i64 b, .bool front, .string s] 39)) wr.heap.size ⟨kind, a, b, front, s⟩ := ⟨heap_alloc_new wr _⟩
      have hR := r_do (HSk.out.below hbA) HL.out ⟨kind, a, b, front, s⟩ HokK.out
      have hDo := fun (u : World) (hu : Dq u g L) => d_do hu ⟨kind, a, b, front, s⟩ HokK.out
      have hL' := doL_le L ⟨kind, a, b, front, s⟩ HL.out
      have hA' : (ansL L ⟨kind, a, b, front, s⟩).length ≤ 256 := by
        unfold ansL
        split
        · exact Nat.le_trans (ranged_le _ _ _) HL.out
        · exact Nat.zero_le _
      unfold ansV at hR hDo
      generalize ansS L ⟨kind, a, b, front, s⟩ = S at *
      generalize ansB L ⟨kind, a, b, front, s⟩ = B at *
      generalize ansL L ⟨kind, a, b, front, s⟩ = A at *
      generalize doL L ⟨kind, a, b, front, s⟩ = L' at *
      have HR := Lib.hid hR
      have HDo := Lib.hid hDo
      have HBox := Lib.hid hbox
      have HBA := Lib.hid hbA
      have HL' := Lib.hid hL'
      have HA' := Lib.hid hA'
      clear c0 c1 c2 c3 c4 hcc hblk hbox hR hDo hL' hA' hbA
      go_wp2_with fail
      refine HR.out.mono ?_
      rintro e w1 ⟨v', lv, rfl, hs1, hs2, hb1⟩
      obtain ⟨sp1, cap1, rfl, _⟩ := hs1.form
      obtain ⟨sp2, cap2, rfl, _⟩ := hs2.form
      have HS1 := Lib.hid hs1
      have HS2 := Lib.hid hs2
      have hbox1 := HBox.out.below hb1 (by simp)
      have HD1 := Lib.hid ((HDk.out.below HBA.out).belowN hb1 (by simp; omega))
      have HB1 := Lib.hid (HBA.out.trans (hb1.mono (by simp)))
      have g1 : wr.heap.size < w1.heap.size := by have := hb1.size; simp at this; omega
      obtain ⟨f0, f1, f2, f3, f4⟩ := hbox1.cells
      simp only at f0 f1 f2 f3 f4
      clear hs1 hs2 hb1 hbox1 e0 e1 e2 e3 e4
      go_wp2_with fail
      have hbB : Below w1.heap.size w1 (w1.alloc (.cells #[.string S, .bool B, .slice sp2 A.length cap2] 41)) := (Below.refl _ _).alloc (Nat.le_refl _) _
      have hbox2 : Box (w1.alloc (.cells #[.string S, .bool B, .slice sp2 A.length cap2] 41)) w1.heap.size (.string S) (.bool B) (.slice sp2 A.length cap2) := ⟨heap_alloc_new w1 _⟩
      refine (HDo.out _ (HD1.out.below hbB)).mono ?_
      rintro e w3 ⟨lv, rfl, hd3, hs3, ho3⟩
      obtain ⟨sp3, cap3, rfl, _⟩ := hs3.form
      have g3 : w1.heap.size < w3.heap.size := by have := ho3.size; simp at this; omega
      have hdk : ∃ cs t fr, (w1.alloc (.cells #[.string S, .bool B, .slice sp2 A.length cap2] 41)).heap[g]? = some (.cells cs t fr) ∧ t ≠ 9 := by
        obtain ⟨cs, f, hh, _⟩ := HD1.out.below hbB
        exact ⟨_, _, _, hh, by decide⟩
      have HS13 := Lib.hid ((HS1.out.below hbB).only ho3 hdk)
      have HS23 := Lib.hid ((HS2.out.below hbB).only ho3 hdk)
      have HS33 := Lib.hid hs3
      have HD3 := Lib.hid hd3
      have hbox3 := hbox2.only ho3 (by omega)
      have b0 := hbox3.cell0
      have b1 := hbox3.cell1
      have b2 := hbox3.cell2
      have HO3 := Lib.hid (HOk'.out.trans (Only.trans (below_only (HB1.out.trans (hbB.mono (by omega))) g) ho3))
      clear hs3 hd3 ho3 hbox2 hbox3 hdk f0 f1 f2 f3 f4
      have HBC : Hid (Below w3.heap.size w3 (w3.alloc (.cells #[.string S, .bool B, .slice sp3 A.length cap3] 41))) := (Below.refl _ _).alloc (Nat.le_refl _) _
      go_wp2_with fail
      refine (same_walk (HS33.out.below HBC.out) (HS23.out.below HBC.out) HA'.out).mono ?_
      rintro e w5 ⟨rfl, hb5⟩
      have HB5 := Lib.hid (HBC.out.trans (hb5.mono (by simp)))
      clear hb5
      go_wp2_with fail
      refine (dq_len (HD3.out.below HB5.out)).mono ?_
      rintro e w' ⟨rfl, rfl⟩
      go_wp2
      go_roundw
      case rel => exact ⟨k + 1, by omega, by go_num, by rw [HP.out]; exact HS13.out.below HB5.out, by rw [HP.out]; exact HD3.out.below HB5.out, HO3.out.trans (below_only HB5.out g)⟩
      case measure => simp [intOf]; omega
    · have hkl : k = os.length := by omega
      subst hkl
      rw [List.take_length] at HSk HDk
      go_wp2
      go_ret2
      exact ⟨_, rfl, HDk.out, HSk.out, HOk'.out⟩
end Go.Proofs.Ytemacgcklgdhpaa
