/- The digest of a text, plainly; the page's own example, reckoned. -/
import Derived.Test.YtnpngkbcfkolnaaDigP
import Derived.Test.YtnpngkbcfkolnaaStrs
namespace Go.Proofs.Ytnpngkbcfkolnaa
open Go.ChangeShapes Go.WideShapes Go.ChangeAt Go.RowKit Go.Joins
set_option linter.unusedVariables false
set_option linter.unusedSimpArgs false

/-- What the words are before the first block. -/
def initQ : List Int := beginsL.set 0 (bits .xor .u32 1779033703 16842784)
theorem initQ_words : Words 8 initQ := begins_words.set 0 (xor_bd _ _)
/-- The words behind k whole blocks. -/
def midStep (T : ByteArray) (hs : List Int) (i : Nat) : List Int := blockQ hs (T.extract (64 * i) (64 * i + 64)) (64 * i + 64) false
def midQ (T : ByteArray) (k : Nat) : List Int := (List.range k).foldl (midStep T) initQ
theorem midQ_succ (T : ByteArray) (k : Nat) : midQ T (k + 1) = blockQ (midQ T k) (T.extract (64 * k) (64 * k + 64)) (64 * k + 64) false := range_step _ _ _
theorem midQ_words (T : ByteArray) (k : Nat) : Words 8 (midQ T k) := by
  cases k with
  | zero => exact initQ_words
  | succ k => rw [midQ_succ]; exact blockQ_words _ _ _ _
/-- How many whole blocks lie ahead of the last one. -/
def nb (n : Nat) : Nat := (n - 1) / 64
def wordsOf (T : ByteArray) : List Int := blockQ (midQ T (nb T.size)) (T.extract (64 * nb T.size) T.size) T.size true
theorem wordsOf_words (T : ByteArray) : Words 8 (wordsOf T) := blockQ_words _ _ _ _
def wordBytes (x : Int) : List Nat := [(x / 2 ^ (8 * 0) % 256).toNat, (x / 2 ^ (8 * 1) % 256).toNat, (x / 2 ^ (8 * 2) % 256).toNat, (x / 2 ^ (8 * 3) % 256).toNat]
def digestB (ws : List Int) : List Nat := (List.range 8).flatMap fun i => wordBytes (ws.getD i 0)
def digestS (T : ByteArray) : ByteArray := strOf8 (digestB (wordsOf T))

theorem digest_empty : (digestS ByteArray.empty).extract 0 4 = ⟨#[105, 33, 122, 48]⟩ := by kernel_rfl

theorem bytesBlk_new (w : World) {ns ms : List Nat} (h : ms = ns) (T : TypeId) (hlt : ∀ n ∈ ns, n < 256) : BytesBlk (w.alloc (.cells (cellsOf8 ns) T)) w.heap.size ms := by
  subst h
  intro i hi
  have hg : ms.getD i 0 < 256 := getD_lt hlt hi
  refine ⟨hg, ?_, by simp [go_sem]⟩
  rw [cell_of_row _ _ _ _ _ _ (heap_alloc_new w _)]
  simp [cellsOf8, hi]
end Go.Proofs.Ytnpngkbcfkolnaa
