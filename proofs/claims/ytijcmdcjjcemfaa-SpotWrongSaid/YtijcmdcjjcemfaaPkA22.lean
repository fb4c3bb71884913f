/- A range over a function that writes its own memory between two rounds: the sets of spot: what the iterator promises, and the loop's law; spot.choose, spot.sets walked. -/
import Derived.Test.YtijcmdcjjcemfaaPkA21
import Derived.RangeFuncFrom
import Derived.RangeFuncMany
import Derived.RangeFuncNested
import Derived.RangeFuncBound
import Derived.RangeFuncCalls
import Derived.RangeFuncLeaves
import Derived.RangeFuncBox
import Derived.Shelf.Abstract
import Derived.Shelf.RegionOpen
import Derived.OwnWalkIn
import Derived.TacticsInMore
import Derived.LoopNIn
import Derived.LoopIn
namespace Go.Proofs.Ytijcmdcjjcemfaa
open Go.ChangeShapes Go.WideShapes Go.ChangeAt Go.RowKit Go.Joins Go.Shelf
set_option linter.unusedVariables false
set_option linter.unusedSimpArgs false
attribute [local go_sem] Oper.semAt_some

theorem grown_setB (w : World) (b i : Nat) (v : Value) : w.grownBy (w.setCell ⟨b, i, none⟩ v) (some b) :=
  ⟨rfl, rfl, rfl, by simp, fun k _ hne => Below.heap_setCell _ _ _ _ (fun e => hne (by simp [e]))⟩
/-- What abides whatever is laid, and a turn of the blocks from lo to hi. -/
def AbidesRow {β : Type} (lo hi : Nat) (J : β → World → Prop) : Prop := ∀ s W W' row, J s W → W.grownBy W' row → (∀ r, row = some r → lo ≤ r ∧ r ≤ hi) → J s W'
theorem AbidesRow.alloc {β : Type} {lo hi : Nat} {J : β → World → Prop} (h : AbidesRow lo hi J) {s : β} {W : World} (hj : J s W) (o : Obj) : J s (W.alloc o) := h s W _ none hj (World.grownBy_alloc W o none) (fun r e => by cases e)
theorem AbidesRow.putObj {β : Type} {lo hi : Nat} {J : β → World → Prop} (h : AbidesRow lo hi J) {s : β} {W : World} (hj : J s W) {l : Nat} (h1 : lo ≤ l) (h2 : l ≤ hi) (o : Obj) : J s (W.putObj l o) := h s W _ (some l) hj (grownBy_putObj' W l o) (fun r e => by cases e; exact ⟨h1, h2⟩)
theorem AbidesRow.setCell {β : Type} {b : Nat} {J : β → World → Prop} (h : AbidesRow b b J) {s : β} {W : World} (hj : J s W) (i : Nat) (v : Value) : J s (W.setCell ⟨b, i, none⟩ v) := h s W _ (some b) hj (grown_setB W b i v) (fun r e => by cases e; exact ⟨Nat.le_refl _, Nat.le_refl _⟩)

/-- A set that is handed out lies in block b. -/
def SetAt (nn b : Nat) (T : List Bool) (W : World) : Prop := T.length = nn ∧ W.ownsRow b 4 1 (.slice (some ⟨b, 0, none⟩) nn nn) nn (T.map Value.bool)
abbrev encSet (nn b : Nat) : Array Value := #[.slice (some ⟨b, 0, none⟩) nn nn]
theorem SetAt.grown {nn b : Nat} {T : List Bool} {W W' : World} {row : Option Nat} (h : SetAt nn b T W) (hg : W.grownBy W' row) (hr : row ≠ some b) : SetAt nn b T W' :=
  ⟨h.1, h.2.kept hg (.inr (fun e => hr e.symm))⟩
theorem SetAt.lt {nn b : Nat} {T : List Bool} {W : World} (h : SetAt nn b T W) : b < W.heap.size := (h.2.lt b rfl).2
theorem SetAt.below {nn b : Nat} {T : List Bool} {W W' : World} (h : SetAt nn b T W) (hb : Below W.heap.size W W') : SetAt nn b T W' := ⟨h.1, h.2.kept (row := none) ⟨hb.os, hb.tape, hb.output, hb.size, fun k hk _ => hb.block k hk⟩ (.inr (by simp [Value.ownBlock]))⟩
theorem SetAt.cell {nn b : Nat} {T : List Bool} {W : World} (h : SetAt nn b T W) {i : Nat} (hi : i < nn) : W.cell? ⟨b, i, none⟩ = some (.bool (T.getD i false)) ∧ W.frozen? ⟨b, i, none⟩ = false := by
  have hl := h.1
  refine ⟨?_, h.2.frozenAt i⟩
  rw [h.2.cellAt i (by omega), List.getElem?_map, List.getElem?_eq_getElem (by omega), List.getElem_eq_getD (fallback := false)]
  rfl
theorem SetAt.stored {nn b : Nat} {T : List Bool} {W : World} (h : SetAt nn b T W) (i : Nat) (v : Bool) : SetAt nn b (T.set i v) (W.setCell ⟨b, i, none⟩ (.bool v)) := by
  have h2 := (h.2.stored i (.bool v)).1
  refine ⟨by rw [List.length_set]; exact h.1, ?_⟩
  rw [← List.map_set] at h2
  exact h2

/-- How a round may be left. -/
def postSets (nn b : Nat) (I Ix : List (List Bool) → World → Prop) (pre : List (List Bool)) (x : List Bool) (W : World) : Exit → Act → World → Prop
  | .normal, _, W' => KeepsOthers W W' ∧ SetAt nn b x W' ∧ I (pre ++ [x]) W'
  | .ret, _, W' => KeepsOthers W W' ∧ SetAt nn b x W' ∧ Ix (pre ++ [x]) W'
  | _, _, _ => False

/-- What the iterator promises. -/
def SetsOf (m : Nat) (P : Program) (gf : Nat) (lb : Array Value) (nn : Nat) (S Sp : List (List Bool) → Prop) (w : World) : Prop :=
  ∀ (l : Nat) (J Jx : List (List Bool) → World → Prop) (W : World), Below w.heap.size w W → AbidesRow W.heap.size W.heap.size J → AbidesRow W.heap.size W.heap.size Jx →
    (∀ pre x W1, J pre W1 → SetAt nn W.heap.size x W1 → YieldAt Fence.wide (m - 1) P l (encSet nn W.heap.size) W1 fun e W' =>
      SetAt nn W.heap.size x W' ∧ ((e = .returned (.bool true) ∧ J (pre ++ [x]) W') ∨ (e = .returned (.bool false) ∧ Jx (pre ++ [x]) W'))) →
    J [] W →
    CallsIn Fence.wide m P gf (#[.func (.yield l) #[] #[]] ++ lb) W fun e W' => (∃ v, e = .returned v) ∧ ((∃ xs, S xs ∧ J xs W') ∨ (∃ pre, Sp pre ∧ Jx pre W'))

/-- The loop's law. -/
theorem wpIn_range_sets {P : Program} {n nn : Nat} {g : Operand} {ps : Array Tmp} {assign body : Code} {Q : Exit → Act → World → Prop} {a : Act} {w : World} (h1 : 1 ≤ n)
    {gf : Nat} {lb : Array Value} (hg : a.eval g = .func (.func gf) #[] lb) (eg : ∀ args w, (callFunc gf args).run P w = .ok (.enter gf args) w)
    {S Sp : List (List Bool) → Prop} (hseq : SetsOf (n - 1) P gf lb nn S Sp w) (hps : ps.size = 1)
    (I Ix : List (List Bool) → World → Prop) (hI : AbidesRow w.heap.size (w.heap.size + 2) I) (hIx : AbidesRow w.heap.size (w.heap.size + 2) Ix) (h0 : I [] w) (a₁ : List Bool → Act)
    (hassign : ∀ (l : Nat) (x : List Bool) (W : World) (K : Act → World → Prop), K (a₁ x) W →
      assign.wpIn (Fence.wide.inRound l) (n - 1 - 1) P (Exit.then K (fun _ _ _ => False)) { tmps := (ps.zip (encSet nn (w.heap.size + 2))).foldl (fun t (p, v) => t.setIfInBounds p v) a.tmps, defers := [] } W)
    (hbody : ∀ (l : Nat) (pre : List (List Bool)) (x : List Bool) (W : World), I pre W → SetAt nn (w.heap.size + 2) x W → body.wpIn (Fence.wide.inRound l) (n - 1 - 1) P (postSets nn (w.heap.size + 2) I Ix pre x W) (a₁ x) W)
    (hdone : ∀ (xs : List (List Bool)) (W : World), S xs → I xs W → W.heap[w.heap.size]? = some (.deferred (some [])) → Q .normal { a with defers := { target := .collected w.heap.size, args := #[] } :: a.defers } W)
    (hstop : ∀ (pre : List (List Bool)) (W : World), Sp pre → Ix pre W → W.heap[w.heap.size]? = some (.deferred (some [])) → Code.ret.wpIn Fence.wide n P Q { a with defers := { target := .collected w.heap.size, args := #[] } :: a.defers } W) :
    (Code.rangeFunc g ps assign body).wpIn Fence.wide n P Q a w := by
  refine wpIn_rangeFunc (fun fn hfn => ?_)
  obtain ⟨D, hD⟩ : ∃ D, D = w.heap.size := ⟨_, rfl⟩
  obtain ⟨rc, hrc⟩ : ∃ rc : LoopState → Option Code → Loop, rc = fun st pe => { state := st, pending := pe, fn, tmps := a.tmps, params := ps, assign, body, defers := D } := ⟨_, rfl⟩
  obtain ⟨V, hV⟩ : ∃ V, V = (w.alloc (.deferred (some []))).alloc (.loop (rc .ready none)) := ⟨_, rfl⟩
  have hVs : V.heap.size = D + 2 := by rw [hV, hD]; simp
  have hVR : V.heap[D + 1]? = some (.loop (rc .ready none)) := by
    have h := World.alloc_heap_new (w.alloc (.deferred (some []))) (.loop (rc .ready none))
    rw [World.size_alloc, ← hD] at h
    rw [hV]; exact h
  have hVD : V.heap[D]? = some (.deferred (some [])) := by
    rw [hV, Below.heap_alloc _ _ _ (by rw [World.size_alloc]; omega), hD]
    exact World.alloc_heap_new w _
  have hVI : I [] V := by rw [hV]; exact hI.alloc (hI.alloc h0 _) _
  have hVb : Below w.heap.size w V := by rw [hV]; exact ((Below.refl _ w).alloc (Nat.le_refl _) _).alloc (by simp) _
  have hren : (Instr.enterLoop fn a.tmps ps assign body Fence.wide.round).run P w = .ok (D + 1, [{ target := .collected D, args := #[] }]) V := by
    have h := run_enterLoop_outer (P := P) (w := w) fn a.tmps ps assign body
    rw [hV, hrc, hD]; exact h
  have keep : ∀ {A B : World} {row : Option Nat} {k : Nat} {o : Obj}, A.grownBy B row → (∀ r, row = some r → V.heap.size ≤ r ∧ r ≤ V.heap.size) → k < V.heap.size → A.heap[k]? = some o → B.heap[k]? = some o := fun {A B row k o} hgw hr hk ho =>
    (hgw.block k (Array.getElem?_eq_some_iff.1 ho).1 (fun e => by have := (hr k e.symm).1; omega)).trans ho
  refine ⟨D + 1, [{ target := .collected D, args := #[] }], V, { target := .fn (.func gf) lb, args := #[.func (.yield (D + 1)) #[] #[]] }, V, gf, #[.func (.yield (D + 1)) #[] #[]] ++ lb, V, hren, ?_, fun f' hf' => trivial, ?_, fun _ => h1, ?_⟩
  · simp only [resolve, hg]
    simp [go_sem]
  · simp [invoke, go_sem, eg]
  · refine (hseq (D + 1)
      (fun pre W => I pre W ∧ W.heap[D + 1]? = some (.loop (rc .ready none)) ∧ W.heap[D]? = some (.deferred (some [])))
      (fun pre W => Ix pre W ∧ W.heap[D + 1]? = some (.loop (rc .done (some .ret))) ∧ W.heap[D]? = some (.deferred (some [])))
      V hVb
      (fun s A B row hs hgw hr => ⟨hI s A B row hs.1 hgw (fun r e => by have := hr r e; omega), keep hgw hr (by omega) hs.2.1, keep hgw hr (by omega) hs.2.2⟩)
      (fun s A B row hs hgw hr => ⟨hIx s A B row hs.1 hgw (fun r e => by have := hr r e; omega), keep hgw hr (by omega) hs.2.1, keep hgw hr (by omega) hs.2.2⟩)
      ?_ ⟨hVI, hVR, hVD⟩).mono ?_
    · rintro pre x W ⟨hi, hl, hk⟩ hx
      have hve : V.heap.size = w.heap.size + 2 := by omega
      rw [hve] at hx ⊢
      have hxR : some (D + 1) ≠ some (w.heap.size + 2) := fun e => by have := Option.some.inj e; omega
      have hy := run_yield (P := P) (args := encSet nn (w.heap.size + 2)) hl (by rw [hrc]; exact hps.symm)
      rw [hrc] at hy
      refine ⟨fn, _, assign, body, hy, roundIn_of_wpIn hfn (hassign _ x W _ ⟨_, run_beginRound hl (by rw [hrc]), ?_⟩)⟩
      obtain ⟨Wb, hWb⟩ : ∃ Wb, Wb = W.putObj (D + 1) (.loop { rc .ready none with state := .busy }) := ⟨_, rfl⟩
      rw [← hWb]
      have hl2 : Wb.heap[D + 1]? = some (.loop { rc .ready none with state := .busy }) := by rw [hWb]; exact World.putObj_heap_same (Array.getElem?_eq_some_iff.1 hl).1
      have hk2 : Wb.heap[D]? = some (.deferred (some [])) := by rw [hWb]; exact (World.putObj_heap_other (by omega)).trans hk
      have hi2 : I pre Wb := by rw [hWb]; exact hI.putObj hi (by omega) (by omega) _
      have hx2 : SetAt nn (w.heap.size + 2) x Wb := by rw [hWb]; exact hx.grown (grownBy_putObj' W _ _) hxR
      refine wpIn_mono (hbody _ pre x _ hi2 hx2) ?_
      rintro e a3 W3 hp
      cases e with
      | normal =>
        obtain ⟨hk3, hx3, hi3⟩ := hp
        have hl3 := hk3.same _ _ hl2 rfl
        have hend := run_endRound (P := P) none hl3
        refine ⟨_, _, hend, hx3.grown (grownBy_putObj' W3 _ _) hxR, .inl ⟨rfl, hI.putObj hi3 (by omega) (by omega) _, ?_, ?_⟩⟩
        · rw [World.putObj_heap_same (Array.getElem?_eq_some_iff.1 hl3).1, hrc]; rfl
        · exact (World.putObj_heap_other (by omega)).trans (hk3.same _ _ hk2 rfl)
      | ret =>
        obtain ⟨hk3, hx3, hi3⟩ := hp
        have hl3 := hk3.same _ _ hl2 rfl
        have hend := run_endRound (P := P) (some .ret) hl3
        refine ⟨_, _, hend, hx3.grown (grownBy_putObj' W3 _ _) hxR, .inr ⟨rfl, hIx.putObj hi3 (by omega) (by omega) _, ?_, ?_⟩⟩
        · rw [World.putObj_heap_same (Array.getElem?_eq_some_iff.1 hl3).1, hrc]; rfl
        · exact (World.putObj_heap_other (by omega)).trans (hk3.same _ _ hk2 rfl)
      | exit id => exact hp.elim
      | goto t => exact hp.elim
      | panic ch => exact hp.elim
      | outgrown => exact hp.elim
    · rintro e W2 ⟨⟨v, rfl⟩, (⟨xs, hS, hi, hl, hk⟩ | ⟨pre, hSp, hi, hl, hk⟩)⟩
      · have hend := run_endLoop (P := P) hl (by rw [hrc]; simp)
        rw [hrc] at hend
        subst hD
        exact ⟨none, _, hend, hdone xs _ hS (hI.putObj hi (by omega) (by omega) _) ((World.putObj_heap_other (by omega)).trans hk)⟩
      · have hend := run_endLoop (P := P) hl (by rw [hrc]; simp)
        rw [hrc] at hend
        subst hD
        exact ⟨some .ret, _, hend, hstop pre _ hSp (hIx.putObj hi (by omega) (by omega) _) ((World.putObj_heap_other (by omega)).trans hk)⟩
end Go.Proofs.Ytijcmdcjjcemfaa

/- spot.choose and spot.sets, walked: each choice, in order. -/

namespace Go.Proofs.Ytijcmdcjjcemfaa
open Go.ChangeShapes Go.WideShapes Go.ChangeAt Go.RowKit Go.Joins Go.Shelf
set_option linter.unusedVariables false
set_option linter.unusedSimpArgs false
attribute [local go_sem] Oper.semAt_some

theorem yieldAt_any {m : Nat} (m' : Nat) {P : Program} {l : Nat} {args : Array Value} {W : World} {R : Ending → World → Prop} (h : YieldAt Fence.wide m P l args W R) : YieldAt Fence.wide m' P l args W R := by
  obtain ⟨fn, tmps, assign, body, hy, hR⟩ := h
  exact ⟨fn, tmps, assign, body, hy, ⟨hR.1, fun c cs _ => hR.2 c cs (fun d h => by cases h)⟩⟩
theorem cell_alloc_s {W : World} {a : Addr} {v : Value} (o : Obj) (h : W.cell? a = some v) : (W.alloc o).cell? a = some v := cell_kept h (World.grownBy_alloc W o none) (fun r e => by cases e)
theorem frozen_alloc_s {W : World} {a : Addr} {v : Value} (o : Obj) (h : W.cell? a = some v) (hf : W.frozen? a = false) : (W.alloc o).frozen? a = false := (frozen_kept h (World.grownBy_alloc W o none) (fun r e => by cases e)).trans hf
/-- The sets, as they come behind a beginning. -/
def tailL (T : List Bool) (L : List (List Bool)) : List (List Bool) := L.map fun t => T ++ t
theorem tailL_nil (L : List (List Bool)) : tailL [] L = L := by simp [tailL]
theorem tailL_split (T : List Bool) (r m : Nat) : tailL T (chooseL (r + 1) (m + 1)) = tailL (T ++ [true]) (chooseL r m) ++ tailL (T ++ [false]) (chooseL r (m + 1)) := by
  simp [tailL, chooseL, Function.comp_def, List.append_assoc]
theorem set_true (T : List Bool) (r : Nat) (v b : Bool) (U : List Bool) : (T ++ b :: U).set T.length v = T ++ [v] ++ U := by
  rw [List.set_append_right (h := Nat.le_refl _)]
  simp

set_option maxRecDepth 100000 in
set_option maxHeartbeats 2000000 in
theorem choose_in (l nn bl : Nat) (hn : nn ≤ 100) (J Jx : List (List Bool) → World → Prop) (hJ : AbidesRow bl bl J) (hJx : AbidesRow bl bl Jx)
    (hY : ∀ k pre x W, J pre W → SetAt nn bl x W → YieldAt Fence.wide k Try.prog l (encSet nn bl) W fun e W' =>
      SetAt nn bl x W' ∧ ((e = .returned (.bool true) ∧ J (pre ++ [x]) W') ∨ (e = .returned (.bool false) ∧ Jx (pre ++ [x]) W'))) :
    ∀ (r m k : Nat) (T : List Bool) (pre : List (List Bool)) (W : World), m ≤ 100 → T.length + r = nn → J pre W → SetAt nn bl (T ++ List.replicate r false) W →
      CallsIn Fence.wide k Try.prog 53 #[.slice (some ⟨bl, 0, none⟩) nn nn, .int .i64 (T.length : Int), .int .i64 (m : Int), .func (.yield l) #[] #[]] W fun e W' =>
        SetAt nn bl (T ++ List.replicate r false) W' ∧ ((e = .returned (.bool true) ∧ J (pre ++ tailL T (chooseL r m)) W') ∨ (e = .returned (.bool false) ∧ ∃ q, q <+: tailL T (chooseL r m) ∧ Jx (pre ++ q) W')) := by
  have leaf : ∀ (r k : Nat) (T : List Bool) (pre : List (List Bool)) (W : World), J pre W → SetAt nn bl (T ++ List.replicate r false) W →
      CallsIn Fence.wide k Try.prog 53 #[.slice (some ⟨bl, 0, none⟩) nn nn, .int .i64 (T.length : Int), .int .i64 0, .func (.yield l) #[] #[]] W fun e W' =>
        SetAt nn bl (T ++ List.replicate r false) W' ∧ ((e = .returned (.bool true) ∧ J (pre ++ tailL T (chooseL r 0)) W') ∨ (e = .returned (.bool false) ∧ ∃ q, q <+: tailL T (chooseL r 0) ∧ Jx (pre ++ q) W')) := by
    intro r k T pre W hj hs
    have hl : tailL T (chooseL r 0) = [T ++ List.replicate r false] := by rw [choose_none]; rfl
    rw [hl]
    generalize T ++ List.replicate r false = U at *
    obtain ⟨fn, tmps, assign, body, hy, hR⟩ := hY (k - 1) pre U W hj hs
    dsimp only [encSet] at hy
    have HJ := Lib.hid hJ
    clear hj hs hY hl
    refine callsIn_of_wp Try.func53 rfl trivial ?_ rfl
    simp only [Try.ntmps53, List.size_toArray, List.length_cons, List.length_nil, Nat.reduceAdd, Nat.reduceSub, Array.replicate_succ, Array.replicate_zero, List.push_toArray, List.append_toArray, List.nil_append, List.cons_append]
    gi_wp2
    refine ⟨(fun h => by cases h), ?_⟩
    refine hR.mono ?_
    clear hR
    rintro e W2 ⟨hs2, (⟨rfl, hj2⟩ | ⟨rfl, hx2⟩)⟩
    · gi_wp2
      go_ret
      exact ⟨hs2, .inl ⟨rfl, hj2⟩⟩
    · gi_wp2
      go_ret
      exact ⟨hs2, .inr ⟨rfl, _, List.prefix_refl _, hx2⟩⟩
  intro r
  induction r with
  | zero =>
    intro m k T pre W hm hT hj hs
    cases m with
    | zero => exact leaf 0 k T pre W hj hs
    | succ m =>
      have hl : tailL T (chooseL 0 (m + 1)) = [] := rfl
      rw [hl, List.append_nil]
      have hT' : T.length = nn := hT
      rw [hT']
      obtain ⟨mm, hmm⟩ : ∃ mm : Nat, mm = m + 1 := ⟨_, rfl⟩
      rw [← hmm]
      have hz : ((mm : Int) == 0) = false := by rw [beq_eq_false_iff_ne]; omega
      have HJ := Lib.hid hj
      have HS := Lib.hid hs
      clear hj hs hY leaf hl hT hT' hmm
      refine callsIn_of_wp Try.func53 rfl trivial ?_ rfl
      simp only [Try.ntmps53, List.size_toArray, List.length_cons, List.length_nil, Nat.reduceAdd, Nat.reduceSub, Array.replicate_succ, Array.replicate_zero, List.push_toArray, List.append_toArray, List.nil_append, List.cons_append]
      gi_wp2
      go_ret
      exact ⟨HS.out, .inl ⟨rfl, HJ.out⟩⟩
  | succ r ih =>
    intro m k T pre W hm hT hj hs
    cases m with
    | zero => exact leaf (r + 1) k T pre W hj hs
    | succ m =>
      rw [tailL_split]
      rw [List.replicate_succ] at hs ⊢
      obtain ⟨mm, hmm⟩ : ∃ mm : Nat, mm = m + 1 := ⟨_, rfl⟩
      obtain ⟨ii, hii⟩ : ∃ ii : Nat, ii = T.length := ⟨_, rfl⟩
      obtain ⟨jj, hjj⟩ : ∃ jj : Nat, jj = T.length + 1 := ⟨_, rfl⟩
      have hz : ((mm : Int) == 0) = false := by rw [beq_eq_false_iff_ne]; omega
      have hz2 : ((ii : Int) == (nn : Int)) = false := by rw [beq_eq_false_iff_ne]; omega
      have i0 : (0 : Int) ≤ (ii : Int) := by omega
      have i1 : (ii : Int) < (nn : Int) := by omega
      have w1 : IntKind.i64.wrap ((ii : Int) + 1) = (jj : Int) := by rw [IntWalk.i64_in _ (by omega)]; omega
      have w2 : IntKind.i64.wrap ((mm : Int) - 1) = (m : Int) := by rw [IntWalk.i64_in _ (by omega)]; omega
      obtain ⟨d1, d2⟩ := hs.cell (i := ii) (by omega)
      have hs1 := hs.stored ii true
      rw [hii, set_true T r, ← hii] at hs1
      have hj1 : J pre (W.setCell ⟨bl, ii, none⟩ (.bool true)) := hJ.setCell hj _ _
      have HC1 := Lib.hid (ih m (k - 1) (T ++ [true]) pre _ (by omega) (by simp; omega) hj1 hs1)
      have HC2 : Hid (∀ pre W, J pre W → SetAt nn bl (T ++ [false] ++ List.replicate r false) W → CallsIn Fence.wide (k - 1) Try.prog 53 #[.slice (some ⟨bl, 0, none⟩) nn nn, .int .i64 (jj : Int), .int .i64 (mm : Int), .func (.yield l) #[] #[]] W fun e W' =>
        SetAt nn bl (T ++ [false] ++ List.replicate r false) W' ∧ ((e = .returned (.bool true) ∧ J (pre ++ tailL (T ++ [false]) (chooseL r mm)) W') ∨ (e = .returned (.bool false) ∧ ∃ q, q <+: tailL (T ++ [false]) (chooseL r mm) ∧ Jx (pre ++ q) W'))) := fun pre W hj hs => by
        have h := ih mm (k - 1) (T ++ [false]) pre W (by omega) (by simp; omega) hj hs
        rw [List.length_append, List.length_singleton, ← hjj] at h
        exact h
      have ST : Hid (∀ W, SetAt nn bl (T ++ [true] ++ List.replicate r false) W → W.cell? ⟨bl, ii, none⟩ = some (.bool true) ∧ W.frozen? ⟨bl, ii, none⟩ = false ∧ SetAt nn bl (T ++ [false] ++ List.replicate r false) (W.setCell ⟨bl, ii, none⟩ (.bool false))) := fun W h => by
        obtain ⟨c1, c2⟩ := h.cell (i := ii) (by omega)
        have h3 := h.stored ii false
        rw [hii, List.append_assoc, List.singleton_append, set_true T r] at h3
        rw [← hii] at h3
        refine ⟨?_, c2, h3⟩
        rw [c1, hii]
        simp
      have hc1 : T ++ false :: List.replicate r false = T ++ [false] ++ List.replicate r false := by simp
      rw [hc1]
      rw [← hmm, ← hii]
      rw [List.length_append, List.length_singleton, ← hjj] at HC1
      have HJ := Lib.hid hJ
      have HJx := Lib.hid hJx
      obtain ⟨c0, hc0⟩ : ∃ c0, c0 = (T ++ false :: List.replicate r false).getD ii false := ⟨_, rfl⟩
      rw [← hc0] at d1
      clear hY leaf ih hs hs1 hj hj1 hc1 hc0 hJ hJx hT hmm hii hjj hm
      generalize hV : W.setCell ⟨bl, ii, none⟩ (.bool true) = V at *
      refine callsIn_of_wp Try.func53 rfl trivial ?_ rfl
      simp only [Try.ntmps53, List.size_toArray, List.length_cons, List.length_nil, Nat.reduceAdd, Nat.reduceSub, Array.replicate_succ, Array.replicate_zero, List.push_toArray, List.append_toArray, List.nil_append, List.cons_append]
      gi_wp2
      refine ⟨trivial, (fun h => by cases h), ?_⟩
      refine HC1.out.mono ?_
      clear HC1 d1 d2 hV
      rintro e W2 ⟨hs2, (⟨rfl, hj2⟩ | ⟨rfl, q, hq, hx⟩)⟩
      · obtain ⟨e1, e2, hs3⟩ := ST.out W2 hs2
        have HC3 := Lib.hid (HC2.out _ _ (HJ.out.setCell hj2 ii (.bool false)) hs3)
        clear hs2 hs3 hj2 HC2 ST
        generalize hV : W2.setCell ⟨bl, ii, none⟩ (.bool false) = V2 at *
        gi_wp2
        refine ⟨trivial, (fun h => by cases h), ?_⟩
        refine HC3.out.mono ?_
        clear HC3 e1 e2 hV
        rintro e W3 ⟨hs4, (⟨rfl, hj4⟩ | ⟨rfl, q, hq, hx⟩)⟩
        · gi_wp2
          go_ret
          exact ⟨hs4, .inl ⟨rfl, by rw [← List.append_assoc]; exact hj4⟩⟩
        · gi_wp2
          go_ret
          exact ⟨hs4, .inr ⟨rfl, _, List.prefix_append_right_inj _ |>.2 hq, by rw [← List.append_assoc]; exact hx⟩⟩
      · obtain ⟨e1, e2, hs3⟩ := ST.out W2 hs2
        have hx3 := HJx.out.setCell hx ii (.bool false)
        clear hs2 hx HC2 ST
        generalize hV : W2.setCell ⟨bl, ii, none⟩ (.bool false) = V2 at *
        gi_wp2
        refine ⟨trivial, ?_⟩
        gi_wp2
        go_ret
        exact ⟨hs3, .inr ⟨rfl, q, hq.trans (List.prefix_append _ _), hx3⟩⟩

set_option maxRecDepth 100000 in
set_option maxHeartbeats 1000000 in
theorem sets1_of (nn m B0 B1 : Nat) (hn : nn ≤ 100) (hm : m ≤ 100) (w : World) (hB0 : B0 < w.heap.size) (hB1 : B1 < w.heap.size) (h0 : w.cell? ⟨B0, 0, none⟩ = some (.int .i64 (nn : Int))) (h1 : w.cell? ⟨B1, 0, none⟩ = some (.int .i64 (m : Int))) (k : Nat) :
    SetsOf k Try.prog 52 #[.pointer (some ⟨B0, 0, none⟩), .pointer (some ⟨B1, 0, none⟩)] nn (fun xs => xs = chooseL nn m) (fun pre => pre <+: chooseL nn m) w := fun l J Jx W hW hJ hJx hY hj => by
  have a0 := (hW.cell (p := ⟨B0, 0, none⟩) hB0).trans h0
  have a1 := (hW.cell (p := ⟨B1, 0, none⟩) hB1).trans h1
  have hmk := hmkT (n := nn) (by omega)
  obtain ⟨CT, hCT⟩ : ∃ C, C = Array.replicate nn (Value.bool false) := ⟨_, rfl⟩
  rw [← hCT] at hmk
  have hT1 : CT.toList = (List.replicate nn false).map Value.bool := by rw [hCT]; simp
  have HC : Hid (∀ V, (W.alloc (.cells CT 4)).grownBy V none → CallsIn Fence.wide (k - 1) Try.prog 53 #[.slice (some ⟨W.heap.size, 0, none⟩) nn nn, .int .i64 0, .int .i64 (m : Int), .func (.yield l) #[] #[]] V fun e W' =>
      ∃ b, e = .returned (.bool b) ∧ Hid ((∃ xs, xs = chooseL nn m ∧ J xs W') ∨ (∃ pre, pre <+: chooseL nn m ∧ Jx pre W'))) := fun V hg => by
    have hs0 : SetAt nn W.heap.size ([] ++ List.replicate nn false) (W.alloc (.cells CT 4)) := ⟨by simp, by
      have h := World.ownsRow_lit (base := W.heap.size) (e := 4) (size := 1) W CT nn (Nat.le_refl _) (by unfold maxLen; omega) (by rw [hCT]; simp)
      rw [hT1] at h
      exact h⟩
    have hsV := hs0.grown hg (by simp)
    have hjV := hJ [] _ V none (hJ.alloc hj (.cells CT 4)) hg (fun r e => by cases e)
    refine (choose_in l nn W.heap.size hn J Jx hJ hJx (fun k' pre x W1 hj hs => yieldAt_any k' (hY pre x W1 hj hs)) nn m (k - 1) [] [] _ hm (by simp) hjV hsV).mono ?_
    rintro e W2 ⟨hs2, (⟨rfl, hj2⟩ | ⟨rfl, q, hq, hx⟩)⟩
    · rw [tailL_nil, List.nil_append] at hj2
      exact ⟨_, rfl, .inl ⟨_, rfl, hj2⟩⟩
    · rw [tailL_nil] at hq
      rw [List.nil_append] at hx
      exact ⟨_, rfl, .inr ⟨_, hq, hx⟩⟩
  have a2 := cell_alloc_s (.cells CT 4) a1
  clear hT1 hCT hY hj hJ hJx hW h0 h1
  refine callsIn_wide.2 ?_
  go_enter Try.func52, Try.ntmps52
  go_wp2_with fail
  go_region_with (first | (go_at_call 53; refine (callsIn_wide.1 (HC.out _ (by exact ⟨rfl, rfl, rfl, Nat.le_refl _, fun _ _ _ => rfl⟩))).mono ?_; rintro e W2 ⟨b, rfl, HZ⟩) | fail)
  all_goals
    try go_wp2_with fail
    go_end0
    exact ⟨⟨_, rfl⟩, HZ.out⟩

set_option maxRecDepth 100000 in
set_option maxHeartbeats 400000 in
theorem sets_any (n m : Nat) (w : World) :
    Calls Try.prog 41 #[.int .i64 (n : Int), .int .i64 (m : Int)] w fun e w' => e = .returned (.func (.func 52) #[] #[.pointer (some ⟨w.heap.size, 0, none⟩), .pointer (some ⟨w.heap.size + 1, 0, none⟩)]) ∧ w' = (w.alloc (.cells #[.int .i64 (n : Int)] 3)).alloc (.cells #[.int .i64 (m : Int)] 3) := by
  go_enter Try.func41, Try.ntmps41
  go_wp2
  go_ret
  exact ⟨rfl, rfl⟩
end Go.Proofs.Ytijcmdcjjcemfaa

/- siloref4.Unlike, walked; how many are there. -/

namespace Go.Proofs.Ytijcmdcjjcemfaa
open Go.ChangeShapes Go.WideShapes Go.ChangeAt Go.RowKit Go.Joins
set_option linter.unusedVariables false
set_option linter.unusedSimpArgs false

theorem cntT_set {T : List Bool} {q : Nat} (b : Bool) : ∀ i, i ≤ q → cntT (T.set q b) i = cntT T i
  | 0, _ => rfl
  | i + 1, h => by
    rw [cntT, cntT, cntT_set b i (by omega)]
    have e : (T.set q b).getD i false = T.getD i false := by
      simp [List.getD, List.getElem?_set, show q ≠ i by omega]
    rw [e]
theorem cntT_next {T : List Bool} {q : Nat} (hq : q < T.length) (b : Bool) : cntT (T.set q b) (q + 1) = cntT T q + if b = true then 1 else 0 := by
  have e : (T.set q b).getD q false = b := by simp [List.getD, List.getElem?_set, hq]
  rw [cntT, cntT_set b q (Nat.le_refl q), e]
theorem cntT_le (T : List Bool) : ∀ i, cntT T i ≤ i
  | 0 => Nat.le_refl 0
  | i + 1 => by
    have := cntT_le T i
    rw [cntT]
    split <;> omega

set_option maxRecDepth 100000 in
set_option maxHeartbeats 2000000 in
theorem refUnlike_any (va vb : Value) (a b : List ByteArray) (n : Nat) (w : World) (ha : Strs6 w va a) (hb : Strs6 w vb b) (hla : a.length = n) (hlb : b.length = n) (hn : n ≤ 1000) :
    Calls Try.prog 19 #[va, vb] w fun e w' => ∃ r, e = .returned r ∧ w'.ownsRow w.heap.size 3 1 r (unlN a b n).length (i64s (unlN a b n)) ∧ Below w.heap.size w w' := by
  obtain ⟨i0, hi, hz0, hz1, hz2⟩ := info_parts infoI64
  have HA := Lib.hid ha
  have HB := Lib.hid hb
  have HLA := Lib.hid hla
  have HLB := Lib.hid hlb
  obtain ⟨Aa, ka, rfl⟩ := ha.shape
  obtain ⟨Ab, kb, rfl⟩ := hb.shape
  rw [hla, hlb]
  clear ha hb hla hlb
  go_enter Try.func19, Try.ntmps19
  go_wp2_with fail
  go_loopw [5, 6] (fun l i wr => ∃ (k : Nat) (lw : Value), lw = l ∧ i = .int .i64 k ∧ k ≤ n ∧ wr.ownsRow w.heap.size 3 1 lw (unlN a b k).length (i64s (unlN a b k)) ∧ Below w.heap.size w wr) (fun _ i _ => n - (intOf i).toNat)
  case atStart => exact ⟨0, _, rfl, rfl, by omega, World.ownsRow_nil _ _ _ _, Below.refl _ _⟩
  case round =>
    obtain ⟨k, lw, rfl, rfl, hk, hown, hwr⟩ := hrel
    by_cases hlt : k < n
    · have hd : decide ((k : Int) < (n : Int)) = true := by simp; omega
      have hlta : k < a.length := by rw [HLA.out]; exact hlt
      have hltb : k < b.length := by rw [HLB.out]; exact hlt
      obtain ⟨ba, oa, rfl, _, a0⟩ := (HA.out.below hwr).at_ hlta
      obtain ⟨bb, ob, rfl, _, b0⟩ := (HB.out.below hwr).at_ hltb
      have hga : a.getD k ByteArray.empty = a[k]'hlta := by rw [← List.getElem_eq_getD (h := hlta)]
      have hgb : b.getD k ByteArray.empty = b[k]'hltb := by rw [← List.getElem_eq_getD (h := hltb)]
      have HY : Hid (a[k]'hlta = b[k]'hltb → unlN a b (k + 1) = unlN a b k) := fun h => by rw [unlN, hga, hgb, if_pos h]
      have HN : Hid (a[k]'hlta ≠ b[k]'hltb → unlN a b (k + 1) = unlN a b k ++ [(k : Int)]) := fun h => by rw [unlN, hga, hgb, if_neg h]
      have hkl : (unlN a b k).length ≤ k := by have := unl_cnt a b n k hk; omega
      have j0 : (0 : Int) ≤ (k : Int) := by omega
      have j1 : (k : Int) < (n : Int) := by omega
      clear hga hgb
      generalize a[k]'hlta = s at *
      generalize b[k]'hltb = t at *
      clear hlta hltb
      by_cases hst : s = t
      · have HT1 := Lib.hid (HY.out hst)
        subst hst
        clear HY HN
        go_wp2_with fail
        go_quiet (fail)
        all_goals
          go_wp2_with fail
          go_roundw
          case rel => exact ⟨k + 1, _, rfl, by go_num, by omega, by rw [HT1.out]; exact hown, below_drewN hwr _⟩
          case measure => simp [intOf]; omega
      · have HT1 := Lib.hid (HN.out hst)
        have hs1 : (s.toList == t.toList) = false := by rw [beq_eq_false_iff_ne, ByteArray.toList_eq, ByteArray.toList_eq]; exact fun e => hst (ByteArray.ext (Array.toList_inj.1 e))
        clear HY HN
        go_wp2_with fail
        go_quiet (fail)
        have hown2 : (wr.drewN nq).ownsRow w.heap.size 3 1 lw (unlN a b k).length (i64s (unlN a b k)) := hown
        have hwr2 : Below w.heap.size w (wr.drewN nq) := below_drewN hwr _
        clear hown hwr a0 b0
        go_wp2_with (first | (at_builtin; refine wpList_append_own _ rfl _ _ 34 rfl w.heap.size 3 i0 (.int .i64 0) 1 8 Try.underlying34 hi hz0 hz1 hz2 rfl (by decide) _ _ _ rfl (hown2.alloc _) ⟨wr.heap.size, 0, none⟩ 1 1 [.int .i64 (k : Int)] rfl rfl ?c1 ?c2 ?c3 ?c4 ?c5 ?_) | go_in)
        case c1 => exact cell_one_new' _ _ _
        case c2 => intro u hu; simp at hu; subst hu; rfl
        case c3 => unfold maxLen; omega
        case c4 => omega
        case c5 => have h5 : w.heap.size ≤ wr.heap.size := hwr2.size; simp; omega
        all_goals
          intro v' w1 hown' hgrow _
          have hbx := append_below hwr2 hown2 hgrow
          clear hown2 hgrow hwr2
          go_wp2_with fail
          go_roundw
          case rel => exact ⟨k + 1, _, rfl, by go_num, by omega, by rw [HT1.out, List.length_append, i64s_snoc]; exact hown', hbx⟩
          case measure => simp [intOf]; omega
    · have hke : k = n := by omega
      have hd : decide ((k : Int) < (n : Int)) = false := by simp; omega
      rw [hke] at hown
      clear hke
      go_wp2_with fail
      all_goals
        go_ret
        exact ⟨_, rfl, hown, hwr⟩
end Go.Proofs.Ytijcmdcjjcemfaa

/- spot.unlike, walked. -/

namespace Go.Proofs.Ytijcmdcjjcemfaa
open Go.ChangeShapes Go.WideShapes Go.ChangeAt Go.RowKit Go.Joins
set_option linter.unusedVariables false
set_option linter.unusedSimpArgs false

set_option maxRecDepth 100000 in
set_option maxHeartbeats 2000000 in
theorem unlike_any (va vb : Value) (a b : List ByteArray) (n : Nat) (w : World) (ha : Strs6 w va a) (hb : Strs6 w vb b) (hla : a.length = n) (hlb : b.length = n) (hn : n ≤ 1000) :
    Calls Try.prog 25 #[va, vb] w fun e w' => ∃ r, e = .returned r ∧ w'.ownsRow w.heap.size 3 1 r (unlN a b n).length (i64s (unlN a b n)) ∧ Below w.heap.size w w' := by
  obtain ⟨i0, hi, hz0, hz1, hz2⟩ := info_parts infoI64
  have HA := Lib.hid ha
  have HB := Lib.hid hb
  have HLA := Lib.hid hla
  have HLB := Lib.hid hlb
  obtain ⟨Aa, ka, rfl⟩ := ha.shape
  obtain ⟨Ab, kb, rfl⟩ := hb.shape
  rw [hla, hlb]
  clear ha hb hla hlb
  go_enter Try.func25, Try.ntmps25
  go_wp2_with fail
  go_loopw [4, 8] (fun l i wr => ∃ (k : Nat) (lw : Value), lw = l ∧ i = .int .i64 k ∧ k ≤ n ∧ wr.ownsRow w.heap.size 3 1 lw (unlN a b k).length (i64s (unlN a b k)) ∧ Below w.heap.size w wr) (fun _ i _ => n - (intOf i).toNat)
  case atStart => exact ⟨0, _, rfl, rfl, by omega, World.ownsRow_nil _ _ _ _, Below.refl _ _⟩
  case round =>
    obtain ⟨k, lw, rfl, rfl, hk, hown, hwr⟩ := hrel
    by_cases hlt : k < n
    · have hd : decide ((k : Int) < (n : Int)) = true := by simp; omega
      have hlta : k < a.length := by rw [HLA.out]; exact hlt
      have hltb : k < b.length := by rw [HLB.out]; exact hlt
      obtain ⟨ba, oa, rfl, _, a0⟩ := (HA.out.below hwr).at_ hlta
      obtain ⟨bb, ob, rfl, _, b0⟩ := (HB.out.below hwr).at_ hltb
      have hga : a.getD k ByteArray.empty = a[k]'hlta := by rw [← List.getElem_eq_getD (h := hlta)]
      have hgb : b.getD k ByteArray.empty = b[k]'hltb := by rw [← List.getElem_eq_getD (h := hltb)]
      have HY : Hid (a[k]'hlta = b[k]'hltb → unlN a b (k + 1) = unlN a b k) := fun h => by rw [unlN, hga, hgb, if_pos h]
      have HN : Hid (a[k]'hlta ≠ b[k]'hltb → unlN a b (k + 1) = unlN a b k ++ [(k : Int)]) := fun h => by rw [unlN, hga, hgb, if_neg h]
      have hkl : (unlN a b k).length ≤ k := by have := unl_cnt a b n k hk; omega
      have j0 : (0 : Int) ≤ (k : Int) := by omega
      have j1 : (k : Int) < (n : Int) := by omega
      clear hga hgb
      generalize a[k]'hlta = s at *
      generalize b[k]'hltb = t at *
      clear hlta hltb
      by_cases hst : s = t
      · have HT1 := Lib.hid (HY.out hst)
        subst hst
        clear HY HN
        go_wp2_with fail
        go_quiet (fail)
        all_goals
          go_wp2_with fail
          go_roundw
          case rel => exact ⟨k + 1, _, rfl, by go_num, by omega, by rw [HT1.out]; exact hown, below_drewN hwr _⟩
          case measure => simp [intOf]; omega
      · have HT1 := Lib.hid (HN.out hst)
        have hs1 : (s.toList == t.toList) = false := by rw [beq_eq_false_iff_ne, ByteArray.toList_eq, ByteArray.toList_eq]; exact fun e => hst (ByteArray.ext (Array.toList_inj.1 e))
        clear HY HN
        go_wp2_with fail
        go_quiet (fail)
        have hown2 : (wr.drewN nq).ownsRow w.heap.size 3 1 lw (unlN a b k).length (i64s (unlN a b k)) := hown
        have hwr2 : Below w.heap.size w (wr.drewN nq) := below_drewN hwr _
        clear hown hwr a0 b0
        go_wp2_with (first | (at_builtin; refine wpList_append_own _ rfl _ _ 34 rfl w.heap.size 3 i0 (.int .i64 0) 1 8 Try.underlying34 hi hz0 hz1 hz2 rfl (by decide) _ _ _ rfl (hown2.alloc _) ⟨wr.heap.size, 0, none⟩ 1 1 [.int .i64 (k : Int)] rfl rfl ?c1 ?c2 ?c3 ?c4 ?c5 ?_) | go_in)
        case c1 => exact cell_one_new' _ _ _
        case c2 => intro u hu; simp at hu; subst hu; rfl
        case c3 => unfold maxLen; omega
        case c4 => omega
        case c5 => have h5 : w.heap.size ≤ wr.heap.size := hwr2.size; simp; omega
        all_goals
          intro v' w1 hown' hgrow _
          have hbx := append_below hwr2 hown2 hgrow
          clear hown2 hgrow hwr2
          go_wp2_with fail
          go_roundw
          case rel => exact ⟨k + 1, _, rfl, by go_num, by omega, by rw [HT1.out, List.length_append, i64s_snoc]; exact hown', hbx⟩
          case measure => simp [intOf]; omega
    · have hke : k = n := by omega
      have hd : decide ((k : Int) < (n : Int)) = false := by simp; omega
      rw [hke] at hown
      clear hke
      go_wp2_with fail
      all_goals
        go_ret
        exact ⟨_, rfl, hown, hwr⟩
end Go.Proofs.Ytijcmdcjjcemfaa
