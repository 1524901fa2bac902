/- Packets: their cells; building one; a slice of one. -/
import Derived.Test.YtlccbgjlinlioaaWords
namespace Go.Proofs.Ytlccbgjlinlioaa
open Go.RowKit

/-- a packet -/
structure PK where
  kind : Int
  frm : Int
  of : Int
  ep : Int
  cur : Int
  c : Nat → Nat

def PK.cells (p : PK) : List Value := [.int .i64 p.kind, .int .i64 p.frm, .int .i64 p.of, .int .u64 p.ep, .int .u64 p.cur] ++ wordsList p.c
def PK.val (p : PK) : Value := .agg p.cells.toArray
theorem PK.cells_len (p : PK) : p.cells.length = 261 := by simp [PK.cells, wordsList_len]

def zeroPkt : Array Value := (PK.mk 0 0 0 0 0 (fun _ => 0)).cells.toArray
theorem zero29 (w : World) : (zeroValue 29).run Try.prog w = .ok (.agg zeroPkt) w := by kernel_rfl
theorem size29 : (Try.prog.info? 29).map (·.size) = some 261 := by kernel_rfl

set_option maxRecDepth 100000 in
theorem build29a (kind frm ep cur : Int) (c : Nat → Nat) : Try.prog.built 29 [(0, .int .i64 kind), (1, .int .i64 frm), (3, .int .u64 ep), (4, .int .u64 cur), (5, .agg (wordsArr c))] = some (PK.mk kind frm 0 ep cur c).cells.toArray := by kernel_rfl
set_option maxRecDepth 100000 in
theorem build29b (kind frm o ep cur : Int) (c : Nat → Nat) : Try.prog.built 29 [(0, .int .i64 kind), (1, .int .i64 frm), (2, .int .i64 o), (3, .int .u64 ep), (4, .int .u64 cur), (5, .agg (wordsArr c))] = some (PK.mk kind frm o ep cur c).cells.toArray := by kernel_rfl
theorem zeroPkt_size : zeroPkt.size = 261 := by simp [zeroPkt, PK.cells_len]
theorem places29 : (Try.prog.underlying 29).bind (fun d => match d with
    | .struct fs => fs.toList.mapM (fun f => (Try.prog.info? f.type).map fun i => (f.offset, i.size))
    | _ => none) = some [(0, 1), (1, 1), (2, 1), (3, 1), (4, 1), (5, 256)] := by kernel_rfl
theorem wordsArr_size (c : Nat → Nat) : (wordsArr c).size = 256 := by simp [wordsArr, wordsList_len]
theorem fill29a (kind frm ep cur : Int) (c : Nat → Nat) : Instr.fill (fun x => #[(0, 1), (1, 1), (2, 1), (3, 1), (4, 1), (5, 256)][x]?) zeroPkt [(0, .int .i64 kind), (1, .int .i64 frm), (3, .int .u64 ep), (4, .int .u64 cur), (5, .agg (wordsArr c))] = some (PK.mk kind frm 0 ep cur c).cells.toArray := by
  have h := build29a kind frm ep cur c
  have hi : Try.prog.info? 29 = some Try.t29 := by kernel_rfl
  have hz : Try.t29.zero = some (.agg zeroPkt) := by kernel_rfl
  have hp := places29
  rw [Try.underlying29] at hp
  simp only [Option.bind_some] at hp
  unfold Program.built at h
  rw [hi] at h
  simp only [Try.underlying29, hz] at h
  simp only [hp] at h
  exact h
theorem fold29a (kind frm ep cur : Int) (c : Nat → Nat) : Array.foldl (fun cs x => cs.setIfInBounds (5 + x.snd) x.fst) ((((zeroPkt.setIfInBounds 0 (.int .i64 kind)).setIfInBounds 1 (.int .i64 frm)).setIfInBounds 3 (.int .u64 ep)).setIfInBounds 4 (.int .u64 cur)) (wordsArr c).zipIdx = (PK.mk kind frm 0 ep cur c).cells.toArray := by
  have h := fill29a kind frm ep cur c
  have hs := zeroPkt_size
  have hw := wordsArr_size c
  generalize (PK.mk kind frm 0 ep cur c).cells.toArray = F at *
  generalize wordsArr c = W at *
  generalize zeroPkt = Z at *
  simp [Instr.fill, Value.cells, hs, hw] at h
  simpa [hw] using h
theorem fold29b (kind frm o ep cur : Int) (c : Nat → Nat) : Array.foldl (fun cs x => cs.setIfInBounds (5 + x.snd) x.fst) (((((zeroPkt.setIfInBounds 0 (.int .i64 kind)).setIfInBounds 1 (.int .i64 frm)).setIfInBounds 2 (.int .i64 o)).setIfInBounds 3 (.int .u64 ep)).setIfInBounds 4 (.int .u64 cur)) (wordsArr c).zipIdx = (PK.mk kind frm o ep cur c).cells.toArray := by
  have h := build29b kind frm o ep cur c
  have hi : Try.prog.info? 29 = some Try.t29 := by kernel_rfl
  have hz : Try.t29.zero = some (.agg zeroPkt) := by kernel_rfl
  have hp := places29
  rw [Try.underlying29] at hp
  simp only [Option.bind_some] at hp
  unfold Program.built at h
  rw [hi] at h
  simp only [Try.underlying29, hz] at h
  simp only [hp] at h
  have hs := zeroPkt_size
  have hw := wordsArr_size c
  generalize (PK.mk kind frm o ep cur c).cells.toArray = F at *
  generalize wordsArr c = W at *
  generalize zeroPkt = Z at *
  simp [Instr.fill, Value.cells, hs, hw] at h
  simpa [hw] using h
end Go.Proofs.Ytlccbgjlinlioaa
