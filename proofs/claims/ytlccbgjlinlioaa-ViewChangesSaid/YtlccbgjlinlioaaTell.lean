/- The walk of Tell. -/
import Derived.Test.YtlccbgjlinlioaaPkt
import Derived.Test.YtlccbgjlinlioaaNew
import Derived.Deep.RegionHeld3
namespace Go.Proofs.Ytlccbgjlinlioaa
open Go.RowKit

/-- what it tells -/
def VS.tell (s : VS) (kind : Int) : PK := ⟨kind, s.self, 0, s.ep s.self, s.cur, wordsOf (s.owns s.self)⟩

theorem results34 {w : World} {b : Nat} {cs : Array Value} (h : w.heap[b]? = some (.cells cs 29 (0, 0))) (hs : cs.size = 261) (tmps : Array Value) (h4 : tmps.getD 4 undef = .pointer (some ⟨b, 0, none⟩)) :
    (results Try.f34 tmps).run Try.prog w = .ok (.agg cs) w :=
  results_cell1 (p := 4) (ty := 29) rfl tmps w _ h4 _ (run_loadVar_row (P := Try.prog) w b 29 29 cs (0, 0) _ h Try.underlying29 rfl (by rw [hs]; exact size29))

/-- where Tell's walk stands -/
structure TellS (w : World) (g b : Nat) (s : VS) (u : World) : Prop where
  view : ViewAt u g s
  below : Below w.heap.size w u
  blk : ∃ X, u.heap[b]? = some (.cells X 29 (0, 0)) ∧ X.size = 261

theorem TellS.drew {w : World} {g b : Nat} {s : VS} {u : World} (h : TellS w g b s u) : TellS w g b s u.drew :=
  ⟨h.view.drew, below_drewN h.below 1, h.blk⟩
theorem TellS.on {w : World} {g b : Nat} {s : VS} {u u' : World} (h : TellS w g b s u) (hb : Below u.heap.size u u') (hB : w.heap.size ≤ u.heap.size) : TellS w g b s u' := by
  obtain ⟨X, h1, h2⟩ := h.blk
  refine ⟨h.view.below hb, h.below.trans (hb.mono hB), X, ?_, h2⟩
  refine (hb.block b ?_).trans h1
  rcases Nat.lt_or_ge b u.heap.size with hl | hl
  · exact hl
  · rw [Array.getElem?_eq_none hl] at h1; cases h1

theorem TellS.store {w : World} {g b : Nat} {s : VS} {u : World} (h : TellS w g b s u) (hg : g ≠ b) (hb : w.heap.size ≤ b) {F : Array Value} (hF : F.size = 261) : TellS w g b s (u.setRow b F) ∧ (u.setRow b F).heap[b]? = some (.cells F 29 (0, 0)) := by
  obtain ⟨X, h1, h2⟩ := h.blk
  have h3 := setRow_heap u b X F 29 _ h1
  have hbs : Below b u (u.setRow b F) := below_setRow (Below.refl _ _) (Nat.le_refl _) _
  obtain ⟨cs, c1, c2⟩ := h.view
  exact ⟨⟨⟨cs, (setRow_other u b g F hg).trans c1, c2⟩, below_setRow h.below hb _, F, h3, hF⟩, h3⟩
theorem TellS.stores {w : World} {g b : Nat} {s : VS} {u : World} (h : TellS w g b s u) {F : Array Value} (hF : F.size = 261) (h1 : F.all (·.oneCell') = true) : (storeCells ⟨b, 0, none⟩ F.toList 0).run Try.prog u = .ok () (u.setRow b F) := by
  obtain ⟨X, h2, h3⟩ := h.blk
  have := run_storeCells_from (P := Try.prog) b 29 F.toList 0 X u h2 (by simp; omega) (fun v hv => (Array.all_eq_true_iff_forall_mem.1 h1) v (by simpa using hv))
  simpa using this

theorem PK.oneCell (p : PK) : p.cells.toArray.all (·.oneCell') = true := by
  refine all_oneCell_toArray fun v hv => ?_
  unfold PK.cells wordsList at hv
  simp only [List.mem_append, List.mem_cons, List.not_mem_nil, or_false, List.mem_map] at hv
  rcases hv with (rfl | rfl | rfl | rfl | rfl) | ⟨i, _, rfl⟩ <;> rfl

set_option maxRecDepth 100000 in
set_option maxHeartbeats 1600000 in
theorem tell_any {w : World} {g : Nat} {s : VS} (h : ViewAt w g s) {M : Int} (hok : s.Ok M) (kind : Int) :
    Calls Try.prog 34 #[.pointer (some ⟨g, 0, none⟩), .int .i64 kind] w fun e w' => e = .returned (s.tell kind).val ∧ Below w.heap.size w w' := by
  have hs := hok.self
  have H := Lib.hid h
  have HOK := Lib.hid hok
  have hz := zero29
  have hfold : Array.foldl (fun cs x => cs.setIfInBounds (5 + x.snd) x.fst) ((((zeroPkt.setIfInBounds 0 (.int .i64 kind)).setIfInBounds 1 (.int .i64 (s.self : Int))).setIfInBounds 3 (.int .u64 (s.ep s.self))).setIfInBounds 4 (.int .u64 s.cur)) (wordsArr (wordsOf (s.owns s.self))).zipIdx 0 256 = (PK.mk kind s.self 0 (s.ep s.self) s.cur (wordsOf (s.owns s.self))).cells.toArray := by
    have h := fold29a kind s.self (s.ep s.self) s.cur (wordsOf (s.owns s.self))
    simpa [wordsArr_size] using h
  have hws := wordsArr_size (wordsOf (s.owns s.self))
  have hzs : zeroPkt.size = 261 := by simp [zeroPkt, PK.cells_len]
  have hne : ¬ zeroPkt = #[] := by
    intro e
    rw [e] at hzs
    simp at hzs
  generalize zeroPkt = T at *
  obtain ⟨me, hme⟩ : ∃ me, me = s.self := ⟨_, rfl⟩
  rw [← hme] at hfold hws
  have hmi : (0 : Int) ≤ (me : Int) ∧ (me : Int) < 64 := by omega
  have HB := Lib.hid (build29a kind me (s.ep me) s.cur (wordsOf (s.owns me)))
  have HP : Hid (s.tell kind = PK.mk kind me 0 (s.ep me) s.cur (wordsOf (s.owns me))) := by rw [hme]; exact rfl
  have HF : Hid ((PK.mk kind me 0 (s.ep me) s.cur (wordsOf (s.owns me))).cells.toArray.size = 261) := by rw [List.size_toArray]; exact PK.cells_len _
  have HC := Lib.hid fun (u : World) (hu : ViewAt u g s) => claims_any hu hok me
  have H1 := Lib.hid (PK.oneCell (PK.mk kind me 0 (s.ep me) s.cur (wordsOf (s.owns me))))
  have HV : Hid ((PK.mk kind me 0 (s.ep me) s.cur (wordsOf (s.owns me))).val = .agg (PK.mk kind me 0 (s.ep me) s.cur (wordsOf (s.owns me))).cells.toArray) := rfl
  have hgl := h.lt
  generalize hFF : (PK.mk kind me 0 (s.ep me) s.cur (wordsOf (s.owns me))).cells.toArray = F at *
  generalize hWW : wordsArr (wordsOf (s.owns me)) = WW at *
  clear hok hs
  go_enter Try.func34, Try.ntmps34
  go_wp2_with fail
  have hT : TellS w g w.heap.size s (w.alloc (.cells T 29)) := ⟨H.out.below ((Below.refl _ _).alloc (Nat.le_refl _) _), (Below.refl _ _).alloc (Nat.le_refl _) _, T, heap_alloc_new w _, hzs⟩
  generalize w.alloc (.cells T 29) = w1 at *
  have d0 := hT.view.self
  have d1 := hT.view.ep me (by omega)
  have d2 := hT.view.cur
  rw [← hme] at d0
  have HME := Lib.hid hme
  have hT0 := hT.drew
  clear hme
  clear hFF hWW h hT
  have hsz1 : w.heap.size ≤ w1.drew.heap.size := hT0.below.size
  go_region_held3 (fun u => u.cell? ⟨g, 0, none⟩ = some (.int .i64 me) ∧ u.cell? ⟨g, 16385 + me, none⟩ = some (.int .u64 (s.ep me)) ∧ u.cell? ⟨g, 16449, none⟩ = some (.int .u64 s.cur) ∧ TellS w g w.heap.size s u) (first | exact ⟨d0, d1, d2, hT0⟩ | exact ⟨e0, e1, e2, hT2⟩ | exact ⟨f0, f1, f2, hT3.1⟩) (first
    | (go_at_call 16; refine (HC.out _ hT0.view).mono ?_; rintro e w' ⟨rfl, hb⟩; have hT2 := hT0.on hb hsz1; clear hb; have e0 := hT2.view.self; have e1 := hT2.view.ep me (by omega); have e2 := hT2.view.cur; rw [← HME.out] at e0; have hst := hT2.stores HF.out H1.out; have hT3 := hT2.store (by omega) (Nat.le_refl _) HF.out; have f0 := hT3.1.view.self; have f1 := hT3.1.view.ep me (by omega); have f2 := hT3.1.view.cur; rw [← HME.out] at f0))
  go_wp2
  refine bodyPost_ret (results34 hT3.2 HF.out _ rfl) rfl ?_
  exact ⟨by rw [HP.out, HV.out], hT3.1.below⟩
end Go.Proofs.Ytlccbgjlinlioaa
