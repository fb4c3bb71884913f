/- The digest: what the page says, as a plain function on words. -/
import Derived.Test.YtnpngkbcfkolnaaDigT
namespace Go.Proofs.Ytnpngkbcfkolnaa
open Go.ChangeShapes Go.WideShapes Go.ChangeAt Go.RowKit Go.Joins
set_option linter.unusedVariables false
set_option linter.unusedSimpArgs false

/-- So many words of 32 bits. -/
def Words (n : Nat) (vs : List Int) : Prop := vs.length = n ∧ ∀ x ∈ vs, 0 ≤ x ∧ x < 4294967296
theorem Words.get {n : Nat} {vs : List Int} (h : Words n vs) {i : Nat} (hi : i < n) : 0 ≤ vs.getD i 0 ∧ vs.getD i 0 < 4294967296 := by
  have hl : i < vs.length := by rw [h.1]; exact hi
  rw [← List.getElem_eq_getD (h := hl)]; exact h.2 _ (List.getElem_mem hl)
theorem Words.some {n : Nat} {vs : List Int} (h : Words n vs) {i : Nat} (hi : i < n) : vs[i]? = some (vs.getD i 0) := by
  have hl : i < vs.length := by rw [h.1]; exact hi
  rw [← List.getElem_eq_getD (h := hl), List.getElem?_eq_getElem hl]
theorem Words.set {n : Nat} {vs : List Int} (h : Words n vs) (i : Nat) {x : Int} (hx : 0 ≤ x ∧ x < 4294967296) : Words n (vs.set i x) := by
  refine ⟨by rw [List.length_set]; exact h.1, fun y hy => ?_⟩
  rcases List.mem_or_eq_of_mem_set hy with hy | rfl
  · exact h.2 y hy
  · exact hx

def quarter (i : Nat) : Nat × Nat × Nat × Nat := ((quartersL.getD i []).getD 0 0, (quartersL.getD i []).getD 1 0, (quartersL.getD i []).getD 2 0, (quartersL.getD i []).getD 3 0)
def mixAt (vs : List Int) (a b c d : Nat) (x y : Int) : List Int :=
  let r := mixV (vs.getD a 0) (vs.getD b 0) (vs.getD c 0) (vs.getD d 0) x y
  (((vs.set a r.1).set b r.2.1).set c r.2.2.1).set d r.2.2.2
def rowAt (r k : Nat) : Nat := (rowsL.getD r []).getD k 0
/-- The i-th quarter of round r. -/
def stepQ (ms : List Int) (r : Nat) (vs : List Int) (i : Nat) : List Int :=
  mixAt vs (quarter i).1 (quarter i).2.1 (quarter i).2.2.1 (quarter i).2.2.2 (ms.getD (rowAt r (2 * i)) 0) (ms.getD (rowAt r (2 * i + 1)) 0)
def roundQ (ms vs : List Int) (r : Nat) : List Int := (List.range 8).foldl (stepQ ms r) vs
def roundsQ (ms vs : List Int) (k : Nat) : List Int := (List.range k).foldl (roundQ ms) vs
/-- A block's words, of k of its bytes. -/
def wordsStep (s : ByteArray) (ms : List Int) (i : Nat) : List Int :=
  ms.set (i / 4) (bits .or .u32 (ms.getD (i / 4) 0) ((s.data.toList.getD i 0).toNat * 2 ^ (8 * (i % 4)) % 4294967296))
def wordsQ (s : ByteArray) (k : Nat) : List Int := (List.range k).foldl (wordsStep s) (List.replicate 16 0)
/-- The words that a block begins with. -/
def startQ (hs : List Int) (n : Nat) (last : Bool) : List Int :=
  let v := hs ++ beginsL
  let v := v.set 12 (bits .xor .u32 (v.getD 12 0) (n : Int))
  let v := v.set 13 (bits .xor .u32 (v.getD 13 0) 0)
  if last then v.set 14 (bits .xor .u32 4294967295 (v.getD 14 0)) else v
def endQ (hs vs : List Int) (i : Nat) : Int := bits .xor .u32 (bits .xor .u32 (hs.getD i 0) (vs.getD i 0)) (vs.getD (i + 8) 0)
/-- What a block makes of eight words. -/
def blockQ (hs : List Int) (s : ByteArray) (n : Nat) (last : Bool) : List Int :=
  let vs := roundsQ (wordsQ s s.size) (startQ hs n last) 10
  (List.range 8).map (endQ hs vs)

theorem quarter_ord : ∀ i, i < 8 → (quarter i).1 < (quarter i).2.1 ∧ (quarter i).2.1 < (quarter i).2.2.1 ∧ (quarter i).2.2.1 < (quarter i).2.2.2 ∧ (quarter i).2.2.2 < 16 := by decide
theorem rowAt_lt : ∀ r, r < 10 → ∀ k, k < 16 → rowAt r k < 16 := by decide

theorem mixV_bd (va vb vc vd x y : Int) : (0 ≤ (mixV va vb vc vd x y).1 ∧ (mixV va vb vc vd x y).1 < 4294967296) ∧ (0 ≤ (mixV va vb vc vd x y).2.1 ∧ (mixV va vb vc vd x y).2.1 < 4294967296) ∧
    (0 ≤ (mixV va vb vc vd x y).2.2.1 ∧ (mixV va vb vc vd x y).2.2.1 < 4294967296) ∧ (0 ≤ (mixV va vb vc vd x y).2.2.2 ∧ (mixV va vb vc vd x y).2.2.2 < 4294967296) :=
  ⟨mod_bd _, rot_bd _ _, mod_bd _, rot_bd _ _⟩
theorem mixAt_words {vs : List Int} (h : Words 16 vs) (a b c d : Nat) (x y : Int) : Words 16 (mixAt vs a b c d x y) := by
  obtain ⟨h1, h2, h3, h4⟩ := mixV_bd (vs.getD a 0) (vs.getD b 0) (vs.getD c 0) (vs.getD d 0) x y
  exact (((h.set a h1).set b h2).set c h3).set d h4
theorem stepQ_words {ms vs : List Int} (r i : Nat) (h : Words 16 vs) : Words 16 (stepQ ms r vs i) := mixAt_words h _ _ _ _ _ _
theorem foldl_words {α : Type} {n : Nat} (f : List Int → α → List Int) (hf : ∀ vs a, Words n vs → Words n (f vs a)) : ∀ (l : List α) (vs : List Int), Words n vs → Words n (l.foldl f vs) := by
  intro l
  induction l with
  | nil => intro vs h; exact h
  | cons a l ih => intro vs h; exact ih _ (hf _ _ h)
theorem roundQ_words {ms vs : List Int} (r : Nat) (h : Words 16 vs) : Words 16 (roundQ ms vs r) := foldl_words _ (fun _ _ h => stepQ_words _ _ h) _ _ h
theorem roundsQ_words {ms vs : List Int} (k : Nat) (h : Words 16 vs) : Words 16 (roundsQ ms vs k) := foldl_words _ (fun _ _ h => roundQ_words _ h) _ _ h
theorem or_bd (x y : Int) : 0 ≤ bits .or .u32 x y ∧ bits .or .u32 x y < 4294967296 := wrap32_bd _
theorem wordsQ_words (s : ByteArray) (k : Nat) : Words 16 (wordsQ s k) :=
  foldl_words _ (fun _ _ h => h.set _ (or_bd _ _)) _ _ ⟨by simp, fun x hx => by rw [List.eq_of_mem_replicate hx]; omega⟩
theorem begins_words : Words 8 beginsL := ⟨rfl, by decide⟩
theorem Words.append {n m : Nat} {a b : List Int} (h : Words n a) (k : Words m b) : Words (n + m) (a ++ b) :=
  ⟨by rw [List.length_append, h.1, k.1], fun x hx => by rcases List.mem_append.1 hx with hx | hx <;> first | exact h.2 x hx | exact k.2 x hx⟩
theorem startQ_words {hs : List Int} (h : Words 8 hs) (n : Nat) (last : Bool) : Words 16 (startQ hs n last) := by
  have h1 : Words 16 (hs ++ beginsL) := h.append begins_words
  cases last
  · exact (h1.set 12 (xor_bd _ _)).set 13 (xor_bd _ _)
  · exact ((h1.set 12 (xor_bd _ _)).set 13 (xor_bd _ _)).set 14 (xor_bd _ _)
theorem blockQ_words (hs : List Int) (s : ByteArray) (n : Nat) (last : Bool) : Words 8 (blockQ hs s n last) := by
  refine ⟨by simp [blockQ], fun x hx => ?_⟩
  simp only [blockQ, List.mem_map] at hx
  obtain ⟨i, _, rfl⟩ := hx
  exact xor_bd _ _
theorem range_step {α : Type} (f : α → Nat → α) (a : α) (k : Nat) : (List.range (k + 1)).foldl f a = f ((List.range k).foldl f a) k := by
  rw [List.range_succ, List.foldl_append]; rfl

theorem set_getD_self (vs : List Int) (i : Nat) (h : i < vs.length) : vs.set i (vs.getD i 0) = vs := by
  rw [← List.getElem_eq_getD (h := h), List.set_getElem_self]
theorem four_of {w : World} {g : Nat} {vs : List Int} (h : CellsAt w g 0 (u32s vs)) (hw : Words 16 vs) {a b c d : Nat} (ho : a < b ∧ b < c ∧ c < d ∧ d < 16) :
    Four w vs w g a b c d (vs.getD a 0) (vs.getD b 0) (vs.getD c 0) (vs.getD d 0) := by
  have hl := hw.1
  refine ⟨Kept.refl _ _, ?_, hl, ho, (hw.get (by omega)).1, (hw.get (by omega)).2, (hw.get (by omega)).1, (hw.get (by omega)).2, (hw.get (by omega)).1, (hw.get (by omega)).2, (hw.get (by omega)).1, (hw.get (by omega)).2⟩
  rw [set_getD_self _ _ (by omega), set_getD_self _ _ (by omega), set_getD_self _ _ (by omega), set_getD_self _ _ (by omega)]
  exact h
/-- What a mix within a block leaves. -/
def MixedAt (w : World) (g : Nat) (vs : List Int) (e : Ending) (w' : World) : Prop := e = .returned (.tuple #[]) ∧ CellsAt w' g 0 (u32s vs) ∧ Kept (· = g) w w'
theorem mixed_of {w w' : World} {g a b c d : Nat} {vs : List Int} {x y : Int} {e : Ending} (h : MixOut vs w g a b c d (vs.getD a 0) (vs.getD b 0) (vs.getD c 0) (vs.getD d 0) x y e w') : MixedAt w g (mixAt vs a b c d x y) e w' :=
  ⟨h.1, h.2.at_, h.2.kept⟩

/-- The state of a block's rounds: its words, its sixteen; below w nothing has changed. -/
structure St (w W : World) (Bm Bv : Nat) (ms vs : List Int) : Prop where
  m : CellsAt W Bm 0 (u32s ms)
  v : CellsAt W Bv 0 (u32s vs)
  b : Below w.heap.size w W
theorem St.below {w W W' : World} {Bm Bv : Nat} {ms vs : List Int} (h : St w W Bm Bv ms vs) (hb : Below W.heap.size W W') : St w W' Bm Bv ms vs := ⟨h.m.below hb, h.v.below hb, h.b.trans (hb.mono h.b.size)⟩
theorem St.alloc {w W : World} {Bm Bv : Nat} {ms vs : List Int} (h : St w W Bm Bv ms vs) (o : Obj) : St w (W.alloc o) Bm Bv ms vs := h.below ((Below.refl _ _).alloc (Nat.le_refl _) _)
theorem St.drew {w W : World} {Bm Bv : Nat} {ms vs : List Int} (h : St w W Bm Bv ms vs) : St w W.drew Bm Bv ms vs := ⟨h.m, h.v, h.b.drew⟩
theorem St.mixed {w W W' : World} {Bm Bv : Nat} {ms vs vs' : List Int} (h : St w W Bm Bv ms vs) (h1 : Bm ≠ Bv) (h2 : w.heap.size ≤ Bv) (hc : CellsAt W' Bv 0 (u32s vs')) (hk : Kept (· = Bv) W W') : St w W' Bm Bv ms vs' :=
  ⟨h.m.kept hk h1, hc, h.b.trans (hk.below h.b.size (fun k hk' e => by subst e; omega))⟩
theorem xor_max (x : Int) : bits .xor .u32 IntKind.u32.max x = bits .xor .u32 4294967295 x := rfl
theorem start_cells {W : World} {Bv n : Nat} {hs : List Int} {v12 v13 v14 : Int} (hV : CellsAt W Bv 0 (u32s (hs ++ beginsL))) (hw : Words 8 hs) (h12 : (hs ++ beginsL).getD 12 0 = v12) (h13 : (hs ++ beginsL).getD 13 0 = v13) (h14 : (hs ++ beginsL).getD 14 0 = v14) :
    CellsAt ((W.setCell ⟨Bv, 12, none⟩ (.int .u32 (bits .xor .u32 v12 (n : Int)))).setCell ⟨Bv, 13, none⟩ (.int .u32 (bits .xor .u32 v13 0))) Bv 0 (u32s (startQ hs n false)) ∧
    CellsAt (((W.setCell ⟨Bv, 12, none⟩ (.int .u32 (bits .xor .u32 v12 (n : Int)))).setCell ⟨Bv, 13, none⟩ (.int .u32 (bits .xor .u32 v13 0))).setCell ⟨Bv, 14, none⟩ (.int .u32 (bits .xor .u32 IntKind.u32.max v14))) Bv 0 (u32s (startQ hs n true)) := by
  have hl : (hs ++ beginsL).length = 16 := (hw.append begins_words).1
  have a1 := hV.set (k := 12) (by simp only [u32s, List.length_map, hl]; omega) (.int .u32 (bits .xor .u32 v12 (n : Int)))
  have a2 := a1.set (k := 13) (by simp only [u32s, List.length_set, List.length_map, hl]; omega) (.int .u32 (bits .xor .u32 v13 0))
  have a3 := a2.set (k := 14) (by simp only [u32s, List.length_set, List.length_map, hl]; omega) (.int .u32 (bits .xor .u32 IntKind.u32.max v14))
  simp only [u32s_set, Nat.zero_add] at a1 a2 a3
  have g13 : ((hs ++ beginsL).set 12 (bits .xor .u32 v12 (n : Int))).getD 13 0 = v13 := by rw [← h13]; simp [List.getD, List.getElem?_set]
  have g14 : (((hs ++ beginsL).set 12 (bits .xor .u32 v12 (n : Int))).set 13 (bits .xor .u32 v13 0)).getD 14 0 = v14 := by rw [← h14]; simp [List.getD, List.getElem?_set]
  refine ⟨?_, ?_⟩
  · simp only [startQ, h12, g13, Bool.false_eq_true, if_false]; exact a2
  · simp only [startQ, h12, g13, g14, if_true]; exact a3
theorem start_st {w W : World} {Bm Bv n : Nat} {hs ms : List Int} {v12 v13 v14 : Int} (hM : CellsAt W Bm 0 (u32s ms)) (hV : CellsAt W Bv 0 (u32s (hs ++ beginsL))) (hB : Below w.heap.size w W) (hne : Bm ≠ Bv) (hle : w.heap.size ≤ Bv)
    (hw : Words 8 hs) (h12 : (hs ++ beginsL).getD 12 0 = v12) (h13 : (hs ++ beginsL).getD 13 0 = v13) (h14 : (hs ++ beginsL).getD 14 0 = v14) :
    Hid (St w ((W.setCell ⟨Bv, 12, none⟩ (.int .u32 (bits .xor .u32 v12 (n : Int)))).setCell ⟨Bv, 13, none⟩ (.int .u32 (bits .xor .u32 v13 0))) Bm Bv ms (startQ hs n false)) ∧
    Hid (St w (((W.setCell ⟨Bv, 12, none⟩ (.int .u32 (bits .xor .u32 v12 (n : Int)))).setCell ⟨Bv, 13, none⟩ (.int .u32 (bits .xor .u32 v13 0))).setCell ⟨Bv, 14, none⟩ (.int .u32 (bits .xor .u32 IntKind.u32.max v14))) Bm Bv ms (startQ hs n true)) := by
  obtain ⟨c1, c2⟩ := start_cells (n := n) hV hw h12 h13 h14
  have ne : ∀ (W : World) (j : Nat) (u : Value), CellsAt W Bm 0 (u32s ms) → CellsAt (W.setCell ⟨Bv, j, none⟩ u) Bm 0 (u32s ms) := fun W j u h => h.set_far (Or.inl (Ne.symm hne)) u
  have be : ∀ (W : World) (j : Nat) (u : Value), Below w.heap.size w W → Below w.heap.size w (W.setCell ⟨Bv, j, none⟩ u) := fun W j u h => h.setCell (p := ⟨Bv, j, none⟩) hle u
  exact ⟨⟨ne _ _ _ (ne _ _ _ hM), c1, be _ _ _ (be _ _ _ hB)⟩, ⟨ne _ _ _ (ne _ _ _ (ne _ _ _ hM)), c2, be _ _ _ (be _ _ _ (be _ _ _ hB))⟩⟩

/-- The tables' rows in memory. -/
def nats (l : List Nat) : List Value := l.map natV
theorem nats_get {w : World} {g o : Nat} {l : List Nat} (h : CellsAt w g o (nats l)) {i : Nat} (hi : i < l.length) : w.cell? ⟨g, o + i, none⟩ = some (.int .i64 ((l.getD i 0 : Nat) : Int)) := by
  rw [(h.2 i (by simpa [nats] using hi)).1]
  simp [nats, natV, List.getD, hi]
theorem rowC_eq (r : Nat) : (rowC r).toList = nats (rowsL.getD r []) := by simp [rowC, nats]
theorem rowC_size : ∀ r, r < 10 → (rowC r).size = 16 := by decide
theorem lt10 {r : Nat} (h : r < 10) : r = 0 ∨ r = 1 ∨ r = 2 ∨ r = 3 ∨ r = 4 ∨ r = 5 ∨ r = 6 ∨ r = 7 ∨ r = 8 ∨ r = 9 := by omega
theorem rowC_one (r : Nat) (h : r < 10) : (rowC r).all (·.oneCell') = true := by
  rcases lt10 h with rfl | rfl | rfl | rfl | rfl | rfl | rfl | rfl | rfl | rfl <;> kernel_rfl
theorem rowL_len : ∀ r, r < 10 → (rowsL.getD r []).length = 16 := by decide
theorem rows_part (r : Nat) (h : r < 10) : (rowsC.toList.drop (r * 16)).take 16 = (rowC r).toList := by
  rcases lt10 h with rfl | rfl | rfl | rfl | rfl | rfl | rfl | rfl | rfl | rfl <;> kernel_rfl
theorem row16 {W : World} {Bl r : Nat} (h : CellsAt W Bl 0 rowsC.toList) (hr : r < 10) : ∃ a0 a1 a2 a3 a4 a5 a6 a7 a8 a9 a10 a11 a12 a13 a14 a15 : Nat, W.cell? ⟨Bl, r * 16, none⟩ = some (.int .i64 (a0 : Int)) ∧ W.cell? ⟨Bl, r * 16 + 1, none⟩ = some (.int .i64 (a1 : Int)) ∧ W.cell? ⟨Bl, r * 16 + 2, none⟩ = some (.int .i64 (a2 : Int)) ∧ W.cell? ⟨Bl, r * 16 + 3, none⟩ = some (.int .i64 (a3 : Int)) ∧ W.cell? ⟨Bl, r * 16 + 4, none⟩ = some (.int .i64 (a4 : Int)) ∧ W.cell? ⟨Bl, r * 16 + 5, none⟩ = some (.int .i64 (a5 : Int)) ∧ W.cell? ⟨Bl, r * 16 + 6, none⟩ = some (.int .i64 (a6 : Int)) ∧ W.cell? ⟨Bl, r * 16 + 7, none⟩ = some (.int .i64 (a7 : Int)) ∧ W.cell? ⟨Bl, r * 16 + 8, none⟩ = some (.int .i64 (a8 : Int)) ∧ W.cell? ⟨Bl, r * 16 + 9, none⟩ = some (.int .i64 (a9 : Int)) ∧ W.cell? ⟨Bl, r * 16 + 10, none⟩ = some (.int .i64 (a10 : Int)) ∧ W.cell? ⟨Bl, r * 16 + 11, none⟩ = some (.int .i64 (a11 : Int)) ∧ W.cell? ⟨Bl, r * 16 + 12, none⟩ = some (.int .i64 (a12 : Int)) ∧ W.cell? ⟨Bl, r * 16 + 13, none⟩ = some (.int .i64 (a13 : Int)) ∧ W.cell? ⟨Bl, r * 16 + 14, none⟩ = some (.int .i64 (a14 : Int)) ∧ W.cell? ⟨Bl, r * 16 + 15, none⟩ = some (.int .i64 (a15 : Int)) ∧ a0 < 16 ∧ a1 < 16 ∧ a2 < 16 ∧ a3 < 16 ∧ a4 < 16 ∧ a5 < 16 ∧ a6 < 16 ∧ a7 < 16 ∧ a8 < 16 ∧ a9 < 16 ∧ a10 < 16 ∧ a11 < 16 ∧ a12 < 16 ∧ a13 < 16 ∧ a14 < 16 ∧ a15 < 16 ∧ Hid (a0 = rowAt r 0) ∧ Hid (a1 = rowAt r 1) ∧ Hid (a2 = rowAt r 2) ∧ Hid (a3 = rowAt r 3) ∧ Hid (a4 = rowAt r 4) ∧ Hid (a5 = rowAt r 5) ∧ Hid (a6 = rowAt r 6) ∧ Hid (a7 = rowAt r 7) ∧ Hid (a8 = rowAt r 8) ∧ Hid (a9 = rowAt r 9) ∧ Hid (a10 = rowAt r 10) ∧ Hid (a11 = rowAt r 11) ∧ Hid (a12 = rowAt r 12) ∧ Hid (a13 = rowAt r 13) ∧ Hid (a14 = rowAt r 14) ∧ Hid (a15 = rowAt r 15) := by
  have hg : ∀ i, i < 16 → W.cell? ⟨Bl, r * 16 + i, none⟩ = some (.int .i64 ((rowAt r i : Nat) : Int)) := by
    intro i hi
    have hc := (h.2 (r * 16 + i) (by rw [Array.length_toList, rowsC_size]; omega)).1
    rw [Nat.zero_add] at hc
    rw [hc]
    have e1 : (rowsC.toList.drop (r * 16)).take 16 = nats (rowsL.getD r []) := by rw [rows_part r hr, rowC_eq]
    have hl : i < (rowsL.getD r []).length := by rw [rowL_len r hr]; exact hi
    have e2 : (nats (rowsL.getD r []))[i]? = some (natV (rowAt r i)) := by
      simp only [nats, List.getElem?_map, List.getElem?_eq_getElem hl, Option.map_some, rowAt]
      rw [← List.getElem_eq_getD (h := hl)]
    rw [← e1, List.getElem?_take, if_pos hi, List.getElem?_drop] at e2
    rw [List.getD, e2]; rfl
  obtain ⟨f, hf⟩ : ∃ f : Nat → Nat, ∀ i, i < 16 → W.cell? ⟨Bl, r * 16 + i, none⟩ = some (.int .i64 ((f i : Nat) : Int)) ∧ f i < 16 ∧ Hid (f i = rowAt r i) := ⟨rowAt r, fun i hi => ⟨hg i hi, rowAt_lt r hr i hi, rfl⟩⟩
  exact ⟨f 0, f 1, f 2, f 3, f 4, f 5, f 6, f 7, f 8, f 9, f 10, f 11, f 12, f 13, f 14, f 15, (hf 0 (by omega)).1, (hf 1 (by omega)).1, (hf 2 (by omega)).1, (hf 3 (by omega)).1, (hf 4 (by omega)).1, (hf 5 (by omega)).1, (hf 6 (by omega)).1, (hf 7 (by omega)).1, (hf 8 (by omega)).1, (hf 9 (by omega)).1, (hf 10 (by omega)).1, (hf 11 (by omega)).1, (hf 12 (by omega)).1, (hf 13 (by omega)).1, (hf 14 (by omega)).1, (hf 15 (by omega)).1, (hf 0 (by omega)).2.1, (hf 1 (by omega)).2.1, (hf 2 (by omega)).2.1, (hf 3 (by omega)).2.1, (hf 4 (by omega)).2.1, (hf 5 (by omega)).2.1, (hf 6 (by omega)).2.1, (hf 7 (by omega)).2.1, (hf 8 (by omega)).2.1, (hf 9 (by omega)).2.1, (hf 10 (by omega)).2.1, (hf 11 (by omega)).2.1, (hf 12 (by omega)).2.1, (hf 13 (by omega)).2.1, (hf 14 (by omega)).2.1, (hf 15 (by omega)).2.1, (hf 0 (by omega)).2.2, (hf 1 (by omega)).2.2, (hf 2 (by omega)).2.2, (hf 3 (by omega)).2.2, (hf 4 (by omega)).2.2, (hf 5 (by omega)).2.2, (hf 6 (by omega)).2.2, (hf 7 (by omega)).2.2, (hf 8 (by omega)).2.2, (hf 9 (by omega)).2.2, (hf 10 (by omega)).2.2, (hf 11 (by omega)).2.2, (hf 12 (by omega)).2.2, (hf 13 (by omega)).2.2, (hf 14 (by omega)).2.2, (hf 15 (by omega)).2.2⟩
theorem stepQ_0 (ms vs : List Int) (r : Nat) : stepQ ms r vs 0 = mixAt vs 0 4 8 12 (ms.getD (rowAt r 0) 0) (ms.getD (rowAt r 1) 0) := rfl
theorem stepQ_1 (ms vs : List Int) (r : Nat) : stepQ ms r vs 1 = mixAt vs 1 5 9 13 (ms.getD (rowAt r 2) 0) (ms.getD (rowAt r 3) 0) := rfl
theorem stepQ_2 (ms vs : List Int) (r : Nat) : stepQ ms r vs 2 = mixAt vs 2 6 10 14 (ms.getD (rowAt r 4) 0) (ms.getD (rowAt r 5) 0) := rfl
theorem stepQ_3 (ms vs : List Int) (r : Nat) : stepQ ms r vs 3 = mixAt vs 3 7 11 15 (ms.getD (rowAt r 6) 0) (ms.getD (rowAt r 7) 0) := rfl
theorem stepQ_4 (ms vs : List Int) (r : Nat) : stepQ ms r vs 4 = mixAt vs 0 5 10 15 (ms.getD (rowAt r 8) 0) (ms.getD (rowAt r 9) 0) := rfl
theorem stepQ_5 (ms vs : List Int) (r : Nat) : stepQ ms r vs 5 = mixAt vs 1 6 11 12 (ms.getD (rowAt r 10) 0) (ms.getD (rowAt r 11) 0) := rfl
theorem stepQ_6 (ms vs : List Int) (r : Nat) : stepQ ms r vs 6 = mixAt vs 2 7 8 13 (ms.getD (rowAt r 12) 0) (ms.getD (rowAt r 13) 0) := rfl
theorem stepQ_7 (ms vs : List Int) (r : Nat) : stepQ ms r vs 7 = mixAt vs 3 4 9 14 (ms.getD (rowAt r 14) 0) (ms.getD (rowAt r 15) 0) := rfl
theorem fold_8 {α : Type} (g : α → Nat → α) (v : α) : (List.range 8).foldl g v = g (g (g (g (g (g (g (g v 0) 1) 2) 3) 4) 5) 6) 7 := rfl
theorem roundQ_eq (ms vs : List Int) (r : Nat) : roundQ ms vs r = stepQ ms r (stepQ ms r (stepQ ms r (stepQ ms r (stepQ ms r (stepQ ms r (stepQ ms r (stepQ ms r vs 0) 1) 2) 3) 4) 5) 6) 7 := fold_8 _ _
def endK (hs vs : List Int) (k : Nat) : List Int := (List.range k).foldl (fun h i => h.set i (endQ hs vs i)) hs
theorem fold_set {hs : List Int} (f : Nat → Int) (h : hs.length = 8) : (List.range 8).foldl (fun h i => h.set i (f i)) hs = (List.range 8).map f := by
  match hs, h with
  | [a, b, c, d, e, f, g, i], _ => rfl
theorem endK_all {hs vs : List Int} (h : hs.length = 8) : endK hs vs 8 = (List.range 8).map (endQ hs vs) := fold_set _ h
theorem end_next {W : World} {gh k : Nat} {hs vs : List Int} {x y z : Int} (h : CellsAt W gh 0 (u32s (endK hs vs k))) (hw : Words 8 hs) (hk : k < 8) (hx : hs.getD k 0 = x) (hy : vs.getD k 0 = y) (hz : vs.getD (k + 8) 0 = z) :
    CellsAt (W.setCell ⟨gh, k, none⟩ (.int .u32 (bits .xor .u32 (bits .xor .u32 x y) z))) gh 0 (u32s (endK hs vs (k + 1))) := by
  have hl : (endK hs vs k).length = 8 := by
    have e : ∀ k, (endK hs vs k).length = hs.length := by
      intro k
      induction k with
      | zero => rfl
      | succ k ih => rw [endK, range_step, ← endK, List.length_set, ih]
    rw [e, hw.1]
  have h1 := h.set (k := k) (by simp only [u32s, List.length_map, hl]; omega) (.int .u32 (bits .xor .u32 (bits .xor .u32 x y) z))
  rw [u32s_set, Nat.zero_add] at h1
  rw [endK, range_step, ← endK, endQ, hx, hy, hz]
  exact h1
theorem endK_words {hs vs : List Int} (h : Words 8 hs) (k : Nat) : Words 8 (endK hs vs k) := by
  refine foldl_words _ (fun _ _ h => h.set _ (xor_bd _ _)) _ _ h
theorem endK_later {hs vs : List Int} (k : Nat) : ∀ j, k ≤ j → (endK hs vs k).getD j 0 = hs.getD j 0 := by
  induction k with
  | zero => intro j _; rfl
  | succ k ih =>
    intro j hj
    rw [endK, range_step, ← endK]
    have := ih j (by omega)
    rw [← this]
    simp [List.getD, List.getElem?_set, show k ≠ j by omega]
end Go.Proofs.Ytnpngkbcfkolnaa
