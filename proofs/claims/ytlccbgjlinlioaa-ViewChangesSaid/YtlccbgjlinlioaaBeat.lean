/- The walk of beaten; packet.Right. -/
import Derived.Test.YtlccbgjlinlioaaClaim
namespace Go.Proofs.Ytlccbgjlinlioaa
open Go.RowKit

/-- the owner of the first slot that is not beaten -/
def VS.beaten (s : VS) (p : PK) : Int := (slotsTo p.c 16384).foldl (fun f k => s.beatSlot p.frm p.ep f k) (-1)

/-- what stands between two slots of beaten's walk -/
structure BeatJ (w : World) (g : Nat) (s : VS) (p : PK) (done : List Nat) (u : World) : Prop where
  view : ViewAt u g s
  ptrBox : u.heap[w.heap.size]? = some (.cells #[.pointer (some ⟨g, 0, none⟩)] 30 (0, 0))
  pkt : PktAt u (w.heap.size + 1) p
  first : u.heap[w.heap.size + 1 + 1]? = some (.cells #[.int .i64 (done.foldl (fun f k => s.beatSlot p.frm p.ep f k) (-1))] 3 (0, 0))
  below : Below w.heap.size w u

theorem BeatJ.stable {w : World} {g : Nat} {s : VS} {p : PK} {done : List Nat} {B : Nat} (hg : g < w.heap.size) (hB : w.heap.size + 1 + 1 < B) {u u' : World} (h : BeatJ w g s p done u) (hb : Below B u u') : BeatJ w g s p done u' :=
  ⟨h.view.belowN hb (by omega), (hb.block _ (by omega)).trans h.ptrBox, (hb.block _ (by omega)).trans h.pkt, (hb.block _ hB).trans h.first, h.below.trans (hb.mono (by omega))⟩

theorem beatj_step {w : World} {g : Nat} {s : VS} {M : Int} (hok : s.Ok M) {p : PK} (hg : g < w.heap.size) {B : Nat} (hB : w.heap.size + 1 + 1 < B) :
    StepOk 48 #[.pointer (some ⟨w.heap.size, 0, none⟩), .pointer (some ⟨w.heap.size + 1 + 1, 0, none⟩), .pointer (some ⟨w.heap.size + 1, 0, none⟩)] p.c B (BeatJ w g s p) := by
  intro done k u hj _ hk hu
  have d3 : u.cell? ⟨w.heap.size, 0, none⟩ = some (.pointer (some ⟨g, 0, none⟩)) := by rw [cell_of_row _ _ _ _ _ _ hj.ptrBox]; rfl
  refine (beatc_any hj.view hok k p.frm p.ep _ hk d3 hj.pkt.ep hj.pkt.frm hj.first).mono ?_
  rintro e' u' ⟨rfl, hf, ho⟩
  refine ⟨rfl, ⟨hj.view.only ho (by omega), (ho.block _ (by omega) (by simp; omega)).trans hj.ptrBox, (ho.block _ (by omega) (by simp)).trans hj.pkt, ?_, ho.new hj.below (by omega) (by omega)⟩, ho.keep (by omega)⟩
  rw [List.foldl_append]
  exact hf

set_option maxRecDepth 100000 in
set_option maxHeartbeats 1600000 in
theorem beaten_any {w : World} {g : Nat} {s : VS} (h : ViewAt w g s) {M : Int} (hok : s.Ok M) {p : PK} (hp : p.Ok) :
    Calls Try.prog 35 #[.pointer (some ⟨g, 0, none⟩), p.val] w fun e w' => e = .returned (.int .i64 (s.beaten p)) ∧ Below w.heap.size w w' := by
  unfold PK.val
  have hgl := h.lt
  have H := Lib.hid h
  have HO := Lib.hid hok
  have HS24 : Hid ((Try.prog.info? 24).map (·.size) = some (wordsList p.c).length) := by rw [wordsList_len]; exact size24b
  have HA : Hid (BitsOf (wordsList p.c).toArray p.c) := wordsArr_bits hp.lt
  have hb0 : PktAt ((w.alloc (.cells #[.pointer (some ⟨g, 0, none⟩)] 30)).alloc (.cells p.cells.toArray 29)) (w.heap.size + 1) p := by
    have := heap_alloc_new (w.alloc (.cells #[.pointer (some ⟨g, 0, none⟩)] 30)) (.cells p.cells.toArray 29)
    simpa [PktAt] using this
  generalize p.cells.toArray = PC at *
  have hx3 : ((w.alloc (.cells #[.pointer (some ⟨g, 0, none⟩)] 30)).alloc (.cells PC 29)).heap[w.heap.size]? = some (.cells #[.pointer (some ⟨g, 0, none⟩)] 30 (0, 0)) := by
    rw [Below.heap_alloc _ _ _ (by simp)]
    exact heap_alloc_new w _
  have hbel : Below w.heap.size w (((w.alloc (.cells #[.pointer (some ⟨g, 0, none⟩)] 30)).alloc (.cells PC 29)).alloc (.cells #[.int .i64 (-1)] 3)) := (((Below.refl _ _).alloc (Nat.le_refl _) _).alloc (by simp) _).alloc (by simp; omega) _
  have HJ0 : Hid (BeatJ w g s p [] (((w.alloc (.cells #[.pointer (some ⟨g, 0, none⟩)] 30)).alloc (.cells PC 29)).alloc (.cells #[.int .i64 (-1)] 3))) := by
    refine ⟨h.below hbel, ?_, ?_, ?_, hbel⟩
    · rw [Below.heap_alloc _ _ _ (by simp; omega)]; exact hx3
    · unfold PktAt
      rw [Below.heap_alloc _ _ _ (by simp)]; exact hb0
    · have := heap_alloc_new ((w.alloc (.cells #[.pointer (some ⟨g, 0, none⟩)] 30)).alloc (.cells PC 29)) (.cells #[.int .i64 (-1)] 3)
      simpa using this
  have HSz : Hid (w.heap.size + 1 + 1 < (((w.alloc (.cells #[.pointer (some ⟨g, 0, none⟩)] 30)).alloc (.cells PC 29)).alloc (.cells #[.int .i64 (-1)] 3)).heap.size) := by show _ < _; simp
  have HRw := Lib.hid HJ0.out.pkt.row
  clear h hok hp hb0 hx3 hbel
  go_enter Try.func35, Try.ntmps35
  have hmf : ∀ (fn : Fn) (first cap : Array Value) (u : World), (Instr.makeFunc fn first cap).run Try.prog u = .ok (.func fn first cap) u := fun _ _ _ _ => rfl
  go_wp2_with (with_reducible refine wpList_load_mid rfl 24 (.tmp 6) rfl (w.heap.size + 1) 5 rfl (wordsList p.c) _ HRw.out Try.underlying24 rfl HS24.out ?_)
  refine (each3_any 48 (fun a u => Try.call48 a u) _ _ _ HA.out (BeatJ w g s p) _ (fun done u u' h hb => h.stable hgl HSz.out hb) HJ0.out (beatj_step HO.out hgl HSz.out)).mono ?_
  rintro e w' ⟨rfl, hj, _⟩
  have d5 : w'.cell? ⟨w.heap.size + 1 + 1, 0, none⟩ = some (.int .i64 (s.beaten p)) := by rw [cell_of_row _ _ _ _ _ _ hj.first]; rfl
  have HJ := Lib.hid hj
  clear hj
  go_wp2
  go_ret
  exact ⟨rfl, HJ.out.below⟩
end Go.Proofs.Ytlccbgjlinlioaa
