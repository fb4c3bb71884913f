/- The last step that all laws share: a law's call answers true and changes nothing that was there, so its row's 'post' holds. Bytes and numbers in slices that came in, as lists. -/
import Derived.Test.YtijcmdcjjcemfaaRows
import Derived.WalkKit
import Derived.ProofKit
import Derived.OpenShut
import Derived.SizedLaws
import Derived.Lib.SmallJoins
import Derived.WalkSpells
import Derived.WalkLawsBesides
import Derived.Handy
import Derived.Lib.Hide
import Derived.Laws.BitsLemmas
import Derived.Laws.BytesString
import Derived.Lib.ConvBytes
namespace Go.Proofs.Ytijcmdcjjcemfaa
open Go.ChangeShapes Go.WideShapes Go.ChangeAt Go.RowKit Go.Joins
set_option linter.unusedVariables false
set_option linter.unusedSimpArgs false

theorem lawPost {H : Type} {enc : TypeId × Value → H} {P : Program} {f : Func} {s : ChangeSpec} {t tb : TypeId} {W W' : World} {v0 : Value} {d0 : DataW H} {p : List MemPlace}
    (hl : laidOutB P = true) (hr : P.readableRec t = true) (hrow : t < P.types.size)
    (hp : f.params = #[t]) (hrt : f.resultTypes = #[tb]) (hb : P.underlying tb = some .bool)
    (hs : s.fn H ([d0] ++ []) = { results := [.lit (.bool true)], args := [d0] }) (hsv : s.vars = [])
    (hW' : DataW.Whole enc P f.params.toList s.vars false W [v0] [d0] [] p)
    (h0 : DataW.Trod enc P W 0 (fun _ => true) true t v0 d0 p) (hbel : Below W.heap.size W W') :
    s.post enc P f false true false false W #[v0] (.bool true) W' := by
  refine ⟨[d0], [], p, [], p, [], hW', ?_, ?_, ?_, World.keptBut_mono (fun q hq => ?_) (hbel.frame (· ∈ p)), fun h => by cases h⟩
  · rw [hrt, hs]
    exact trodAll_mk1 (shut_bool hb _)
  · rw [hp, hs]
    exact trodAll_mk1 (Below.trod hl hr hrow h0 hbel (fun x hx => hW'.lt x hx))
  · rw [hsv, hs]
    exact rfl
  · exact ⟨hq, Or.inr (Or.inl hq)⟩

/-- A slice value of ints that reads as these numbers in a world. -/
def NumsIn (w : World) (v : Value) (zs : List Int) : Prop :=
  (∀ n ∈ zs, -9223372036854775808 ≤ n ∧ n ≤ 9223372036854775807) ∧ ((zs = [] ∧ ∃ p cap, v = .slice p 0 cap) ∨
    ∃ b off cap, v = .slice (some ⟨b, off, none⟩) zs.length cap ∧ zs ≠ [] ∧ zs.length ≤ maxLen ∧ b < w.heap.size ∧ ∀ i, i < zs.length → w.cell? ⟨b, off + i, none⟩ = some (.int .i64 (zs.getD i 0)))

/-- A slice value of bytes that reads as these numbers in a world: it is empty, or its cells hold them. -/
def BytesIn (w : World) (v : Value) (ns : List Nat) : Prop :=
  (∀ n ∈ ns, n < 256) ∧ ((ns = [] ∧ ∃ p cap, v = .slice p 0 cap) ∨
    ∃ b off cap, v = .slice (some ⟨b, off, none⟩) ns.length cap ∧ ns ≠ [] ∧ ns.length ≤ maxLen ∧ b < w.heap.size ∧ ∀ i, i < ns.length → w.cell? ⟨b, off + i, none⟩ = some (.int .u8 ((ns.getD i 0 : Nat) : Int)))

theorem toNat_back {zs : List Int} (h : ∀ n ∈ zs, 0 ≤ n ∧ n ≤ 255) : (zs.map Int.toNat).map (fun n : Nat => (n : Int)) = zs := by
  rw [List.map_map]
  conv => rhs; rw [← List.map_id zs]
  apply List.map_congr_left
  intro a ha
  have := h a ha
  simp; omega

theorem cell_block {w : World} {a : Addr} {v : Value} (h : w.cell? a = some v) : a.block < w.heap.size := by
  by_cases hb : a.block < w.heap.size
  · exact hb
  · have e : w.heap[a.block]? = none := by simp; omega
    simp [World.cell?, e] at h

theorem bytesIn_open {H : Type} {enc : TypeId × Value → H} {P : Program} {w : World} {base : Nat} {spare : Nat → Bool} {held : Bool} {t e : TypeId} {fuel : Nat} {v : Value} {x : DataW H × List MemPlace}
    (ht : P.underlying t = some (.slice e)) (he : P.underlying e = some (.int .u8)) (hc : P.cellsOf e = 1)
    (h : DataW.trod enc P w base spare held fuel t [v] = some x) : ∃ ns, BytesIn w v ns := by
  rcases open_ints ht he hc h with ⟨hcs, hx⟩ | ⟨a, len, cap, zs, hcs, _, hl, hm, hz, hx, hcell, hwf⟩
  · simp only [List.cons.injEq, and_true] at hcs
    exact ⟨[], by simp, Or.inl ⟨rfl, _, _, hcs⟩⟩
  · simp only [List.cons.injEq, and_true] at hcs
    subst hcs
    by_cases h0 : len = 0
    · subst h0; exact ⟨[], by simp, Or.inl ⟨rfl, _, _, rfl⟩⟩
    · have hlz : len ≤ zs.length := by rw [hz]; split <;> omega
      obtain ⟨b, off, rfl, hc'⟩ := ints_at hcell (by omega)
      have hbd : ∀ n ∈ zs, 0 ≤ n ∧ n ≤ 255 := fun n hn => by
        have := hwf n hn
        simpa [Lit.wf, IntKind.min, IntKind.max, IntKind.signed, IntKind.bits] using this
      refine ⟨(zs.take len).map Int.toNat, ?_, Or.inr ⟨b, off, cap, ?_, ?_, ?_, ?_, ?_⟩⟩
      · intro n hn
        obtain ⟨z, hz', rfl⟩ := List.mem_map.1 hn
        have := hbd z (List.mem_of_mem_take hz')
        omega
      · simp [List.length_take, Nat.min_eq_left hlz]
      · intro e
        have := congrArg List.length e
        rw [List.length_map, List.length_take, List.length_nil] at this
        omega
      · rw [List.length_map, List.length_take]; omega
      · exact cell_block (hc' 0 (by omega))
      · intro i hi
        simp only [List.length_map, List.length_take] at hi
        rw [hc' i (by omega)]
        have hi2 : i < zs.length := by omega
        have := hbd _ (List.getElem_mem hi2)
        simp [List.getD, List.getElem?_take, hi2, show i < len by omega]
        omega

theorem numsIn_open {H : Type} {enc : TypeId × Value → H} {P : Program} {w : World} {base : Nat} {spare : Nat → Bool} {held : Bool} {t e : TypeId} {fuel : Nat} {v : Value} {x : DataW H × List MemPlace}
    (ht : P.underlying t = some (.slice e)) (he : P.underlying e = some (.int .i64)) (hc : P.cellsOf e = 1)
    (h : DataW.trod enc P w base spare held fuel t [v] = some x) : ∃ zs, NumsIn w v zs := by
  rcases open_ints ht he hc h with ⟨hcs, hx⟩ | ⟨a, len, cap, zs, hcs, _, hl, hm, hz, hx, hcell, hwf⟩
  · simp only [List.cons.injEq, and_true] at hcs
    exact ⟨[], by simp, Or.inl ⟨rfl, _, _, hcs⟩⟩
  · simp only [List.cons.injEq, and_true] at hcs
    subst hcs
    by_cases h0 : len = 0
    · subst h0; exact ⟨[], by simp, Or.inl ⟨rfl, _, _, rfl⟩⟩
    · have hlz : len ≤ zs.length := by rw [hz]; split <;> omega
      obtain ⟨b, off, rfl, hc'⟩ := ints_at hcell (by omega)
      have hbd : ∀ n ∈ zs, -9223372036854775808 ≤ n ∧ n ≤ 9223372036854775807 := fun n hn => by
        have := hwf n hn
        simpa [Lit.wf, IntKind.min, IntKind.max, IntKind.signed, IntKind.bits] using this
      refine ⟨zs.take len, fun n hn => hbd n (List.mem_of_mem_take hn), Or.inr ⟨b, off, cap, ?_, ?_, ?_, ?_, ?_⟩⟩
      · rw [List.length_take, Nat.min_eq_left hlz]
      · intro e
        have := congrArg List.length e
        rw [List.length_take, List.length_nil] at this
        omega
      · rw [List.length_take]; omega
      · exact cell_block (hc' 0 (by omega))
      · intro i hi
        rw [List.length_take] at hi
        rw [hc' i (by omega)]
        have hi2 : i < zs.length := by omega
        simp [List.getD, List.getElem?_take, show i < len by omega]

/-- A slice whose cells are known, whether it is nil or not. -/
def SliceIn (w : World) (p : Option Addr) (n : Nat) (f : Nat → Value) : Prop :=
  n ≤ 9223372036854775807 ∧ ∀ i, i < n → ∃ b off, p = some ⟨b, off, none⟩ ∧ b < w.heap.size ∧ w.cell? ⟨b, off + i, none⟩ = some (f i)

theorem SliceIn.below {w w' : World} {p : Option Addr} {n : Nat} {f : Nat → Value} (h : SliceIn w p n f) (hb : Below w.heap.size w w') : SliceIn w' p n f := by
  refine ⟨h.1, fun i hi => ?_⟩
  obtain ⟨b, off, hp, hlt, hc⟩ := h.2 i hi
  exact ⟨b, off, hp, Nat.lt_of_lt_of_le hlt hb.size, by rw [hb.cell (p := ⟨b, off + i, none⟩) hlt]; exact hc⟩

theorem bytesIn_slice {w : World} {v : Value} {ns : List Nat} (h : BytesIn w v ns) :
    ∃ p cap, v = .slice p ns.length cap ∧ SliceIn w p ns.length (fun i => .int .u8 ((ns.getD i 0 : Nat) : Int)) := by
  obtain ⟨hlt, ⟨rfl, p, cap, rfl⟩ | ⟨b, off, cap, rfl, hne, hm, hb, hc⟩⟩ := h
  · exact ⟨p, cap, rfl, by simp, fun i hi => by simp at hi⟩
  · refine ⟨_, cap, rfl, hm, fun i hi => ⟨b, off, rfl, hb, hc i hi⟩⟩

theorem numsIn_slice {w : World} {v : Value} {zs : List Int} (h : NumsIn w v zs) :
    ∃ p cap, v = .slice p zs.length cap ∧ SliceIn w p zs.length (fun i => .int .i64 (zs.getD i 0)) := by
  obtain ⟨hlt, ⟨rfl, p, cap, rfl⟩ | ⟨b, off, cap, rfl, hne, hm, hb, hc⟩⟩ := h
  · exact ⟨p, cap, rfl, by simp, fun i hi => by simp at hi⟩
  · refine ⟨_, cap, rfl, hm, fun i hi => ⟨b, off, rfl, hb, hc i hi⟩⟩

theorem getD_lt {ns : List Nat} {m : Nat} (h : ∀ n ∈ ns, n < m) {i : Nat} (hi : i < ns.length) : ns.getD i 0 < m := by
  rw [← List.getElem_eq_getD (h := hi)]; exact h _ (List.getElem_mem hi)

theorem byte_at {w : World} {p : Option Addr} {ns : List Nat} (h : SliceIn w p ns.length (fun i => .int .u8 ((ns.getD i 0 : Nat) : Int))) (hlt : ∀ n ∈ ns, n < 256) {i : Nat} (hi : i < ns.length) :
    ∃ (b off x : Nat), p = some ⟨b, off, none⟩ ∧ x < 256 ∧ Hid (x = ns.getD i 0) ∧ w.cell? ⟨b, off + i, none⟩ = some (.int .u8 (x : Int)) := by
  obtain ⟨b, off, hp, _, hc⟩ := h.2 i hi
  exact ⟨b, off, ns.getD i 0, hp, getD_lt hlt hi, rfl, hc⟩
theorem byte_next {w : World} {b off : Nat} {ns : List Nat} (h : SliceIn w (some ⟨b, off, none⟩) ns.length (fun i => .int .u8 ((ns.getD i 0 : Nat) : Int))) (hlt : ∀ n ∈ ns, n < 256) {i : Nat} (hi : i < ns.length) :
    ∃ (x : Nat), x < 256 ∧ Hid (x = ns.getD i 0) ∧ w.cell? ⟨b, off + i, none⟩ = some (.int .u8 (x : Int)) := by
  obtain ⟨b', off', x, hp, h1, h2, h3⟩ := byte_at h hlt hi
  simp only [Option.some.injEq, Addr.mk.injEq, and_true] at hp
  obtain ⟨rfl, rfl⟩ := hp
  exact ⟨x, h1, h2, h3⟩
theorem num_at {w : World} {p : Option Addr} {zs : List Int} (h : SliceIn w p zs.length (fun i => .int .i64 (zs.getD i 0))) (hbd : ∀ n ∈ zs, -9223372036854775808 ≤ n ∧ n ≤ 9223372036854775807) {i : Nat} (hi : i < zs.length) :
    ∃ (b off : Nat) (x : Int), p = some ⟨b, off, none⟩ ∧ (-9223372036854775808 ≤ x ∧ x ≤ 9223372036854775807) ∧ Hid (x = zs.getD i 0) ∧ w.cell? ⟨b, off + i, none⟩ = some (.int .i64 x) := by
  obtain ⟨b, off, hp, _, hc⟩ := h.2 i hi
  exact ⟨b, off, zs.getD i 0, hp, by rw [← List.getElem_eq_getD (h := hi)]; exact hbd _ (List.getElem_mem hi), rfl, hc⟩

/-- The box of a struct of two cells that came in by value. -/
theorem box2_facts (w : World) (v0 v1 : Value) (T : TypeId) :
    Below w.heap.size w (w.alloc (.cells #[v0, v1] T)) ∧ (w.alloc (.cells #[v0, v1] T)).cell? ⟨w.heap.size, 0, none⟩ = some v0 ∧
    (w.alloc (.cells #[v0, v1] T)).cell? ⟨w.heap.size, 1, none⟩ = some v1 ∧ (w.alloc (.cells #[v0, v1] T)).heap.size = w.heap.size + 1 :=
  ⟨(Below.refl _ _).alloc (Nat.le_refl _) _, by simp [go_sem], by simp [go_sem], by simp⟩

theorem below_box {W W' : World} {b : Nat} {v : Value} (hc : Hid (W.cell? ⟨b, 0, none⟩ = some v)) (hs : Hid (W.heap.size = b + 1)) (h : Below W.heap.size W W') : W'.cell? ⟨b, 0, none⟩ = some v := by
  rw [h.cell (p := ⟨b, 0, none⟩) (by show b < _; rw [hs.out]; omega)]; exact hc.out

theorem below_box1 {W W' : World} {b : Nat} {v : Value} (hc : Hid (W.cell? ⟨b, 1, none⟩ = some v)) (hs : Hid (W.heap.size = b + 1)) (h : Below W.heap.size W W') : W'.cell? ⟨b, 1, none⟩ = some v := by
  rw [h.cell (p := ⟨b, 1, none⟩) (by show b < _; rw [hs.out]; omega)]; exact hc.out

theorem quiet_left {P : Program} {f : FuncId} {args : Array Value} {w : World} {n : Nat} {v : Value}
    (h : Calls P f args (w.drewN n) fun e w' => e = .returned v ∧ w.drewN n = w') : Calls P f args (w.drewN n) fun e w'' => e = .returned v ∧ ∃ m, w'' = w.drewN m :=
  h.mono fun _ _ ⟨he, hm⟩ => ⟨he, n, hm.symm⟩
theorem quiet_add_left {P : Program} {f : FuncId} {args : Array Value} {w : World} {a n : Nat} {v : Value}
    (h : Calls P f args (w.drewN (a + n)) fun e w' => e = .returned v ∧ w.drewN (a + n) = w') :
    Calls P f args (w.drewN (a + n)) fun e w'' => e = .returned v ∧ ∃ m, w'' = w.drewN (a + m) :=
  h.mono fun _ _ ⟨he, hm⟩ => ⟨he, n, hm.symm⟩

theorem below_drewN {B : Nat} {a w : World} (h : Below B a w) (n : Nat) : Below B a (w.drewN n) :=
  ⟨h.os, h.tape, h.output, h.size, h.block⟩

theorem ownKnobA : ownKnob Try.prog.godebug = none := by kernel_rfl
theorem laidOutA : laidOutB Try.prog = true := by kernel_rfl
end Go.Proofs.Ytijcmdcjjcemfaa

/- What a call leaves as it was: all blocks that were there but some. Blocks of cells that are known and may be written. -/

namespace Go.Proofs.Ytijcmdcjjcemfaa
open Go.ChangeShapes Go.WideShapes Go.ChangeAt Go.RowKit Go.Joins
set_option linter.unusedVariables false
set_option linter.unusedSimpArgs false

/-- All that was there stands, but for blocks of which p tells. -/
structure Kept (p : Nat → Prop) (w w' : World) : Prop where
  os : w'.os = w.os
  tape : w'.tape = w.tape
  output : w'.output = w.output
  size : w.heap.size ≤ w'.heap.size
  block : ∀ k, k < w.heap.size → ¬ p k → w'.heap[k]? = w.heap[k]?

theorem Kept.refl (p : Nat → Prop) (w : World) : Kept p w w := ⟨rfl, rfl, rfl, Nat.le_refl _, fun _ _ _ => rfl⟩
theorem Kept.trans {p : Nat → Prop} {a b c : World} (h : Kept p a b) (k : Kept p b c) : Kept p a c :=
  ⟨k.os.trans h.os, k.tape.trans h.tape, k.output.trans h.output, Nat.le_trans h.size k.size, fun i hi hp => (k.block i (Nat.lt_of_lt_of_le hi h.size) hp).trans (h.block i hi hp)⟩
theorem Kept.mono {p q : Nat → Prop} {a b : World} (h : Kept p a b) (hpq : ∀ k, k < a.heap.size → p k → q k) : Kept q a b :=
  ⟨h.os, h.tape, h.output, h.size, fun k hk hq => h.block k hk fun hp => hq (hpq k hk hp)⟩
theorem Kept.of_below {p : Nat → Prop} {a b : World} (h : Below a.heap.size a b) : Kept p a b :=
  ⟨h.os, h.tape, h.output, h.size, fun k hk _ => h.block k hk⟩
theorem Kept.below {p : Nat → Prop} {a b : World} {B : Nat} (h : Kept p a b) (hB : B ≤ a.heap.size) (hp : ∀ k, k < B → ¬ p k) : Below B a b :=
  ⟨h.os, h.tape, h.output, h.size, fun k hk => h.block k (Nat.lt_of_lt_of_le hk hB) (hp k hk)⟩
/-- Of blocks that were not there at first nothing is said. -/
theorem Kept.trans_new {p q : Nat → Prop} {a b c : World} (h : Kept p a b) (k : Kept q b c) (hq : ∀ j, j < a.heap.size → q j → p j) : Kept p a c :=
  ⟨k.os.trans h.os, k.tape.trans h.tape, k.output.trans h.output, Nat.le_trans h.size k.size, fun i hi hp => (k.block i (Nat.lt_of_lt_of_le hi h.size) (fun hqi => hp (hq i hi hqi))).trans (h.block i hi hp)⟩
theorem Kept.drew {p : Nat → Prop} {a w : World} (h : Kept p a w) : Kept p a w.drew := ⟨h.os, h.tape, h.output, h.size, h.block⟩
theorem Kept.drewN {p : Nat → Prop} {a w : World} (h : Kept p a w) (n : Nat) : Kept p a (w.drewN n) := ⟨h.os, h.tape, h.output, h.size, h.block⟩
theorem Kept.alloc {p : Nat → Prop} {a w : World} (h : Kept p a w) (o : Obj) : Kept p a (w.alloc o) :=
  h.trans (Kept.of_below ((Below.refl _ _).alloc (Nat.le_refl _) o))
theorem Kept.setCell {p : Nat → Prop} {a w : World} (h : Kept p a w) {d : Addr} (hd : d.block < a.heap.size → p d.block) (u : Value) : Kept p a (w.setCell d u) := by
  refine ⟨h.os, h.tape, h.output, Nat.le_trans h.size (Nat.le_of_eq (World.size_setCell _ _ _).symm), fun k hk hp => ?_⟩
  rw [Below.heap_setCell _ _ _ _ (fun e => hp (by rw [e]; exact hd (by rw [← e]; exact hk)))]
  exact h.block k hk hp
theorem Kept.cell {p : Nat → Prop} {a w : World} (h : Kept p a w) {d : Addr} (hd : d.block < a.heap.size) (hp : ¬ p d.block) : w.cell? d = a.cell? d := World.cell?_of_block (w := a) (h.block d.block hd hp)
theorem Kept.frozen {p : Nat → Prop} {a w : World} (h : Kept p a w) {d : Addr} (hd : d.block < a.heap.size) (hp : ¬ p d.block) : w.frozen? d = a.frozen? d := World.frozen?_of_block (w := a) (h.block d.block hd hp)
theorem Kept.cell_eq {p : Nat → Prop} {a w : World} {b o : Nat} {v : Value} (h : Kept p a w) (hc : a.cell? ⟨b, o, none⟩ = some v) (hp : ¬ p b) : w.cell? ⟨b, o, none⟩ = some v := by
  rw [h.cell (d := ⟨b, o, none⟩) (cell_block hc) hp]; exact hc

/-- Cells from a place of a block on, that may be written. -/
def CellsAt (w : World) (b o : Nat) (cs : List Value) : Prop := b < w.heap.size ∧ ∀ i, i < cs.length → w.cell? ⟨b, o + i, none⟩ = some (cs.getD i default) ∧ w.frozen? ⟨b, o + i, none⟩ = false
theorem CellsAt.cell {w : World} {b o : Nat} {cs : List Value} (h : CellsAt w b o cs) {i : Nat} (hi : i < cs.length) : w.cell? ⟨b, o + i, none⟩ = some cs[i] := by
  rw [(h.2 i hi).1, ← List.getElem_eq_getD (h := hi)]
theorem CellsAt.free {w : World} {b o : Nat} {cs : List Value} (h : CellsAt w b o cs) {i : Nat} (hi : i < cs.length) : w.frozen? ⟨b, o + i, none⟩ = false := (h.2 i hi).2
theorem CellsAt.drew {w : World} {b o : Nat} {cs : List Value} (h : CellsAt w b o cs) : CellsAt w.drew b o cs := h
theorem CellsAt.drewN {w : World} {b o : Nat} {cs : List Value} (h : CellsAt w b o cs) (n : Nat) : CellsAt (w.drewN n) b o cs := h
theorem CellsAt.kept {p : Nat → Prop} {w w' : World} {b o : Nat} {cs : List Value} (h : CellsAt w b o cs) (hk : Kept p w w') (hp : ¬ p b) : CellsAt w' b o cs :=
  ⟨Nat.lt_of_lt_of_le h.1 hk.size, fun i hi => ⟨by rw [hk.cell (d := ⟨b, o + i, none⟩) h.1 hp]; exact (h.2 i hi).1, by rw [hk.frozen (d := ⟨b, o + i, none⟩) h.1 hp]; exact (h.2 i hi).2⟩⟩
theorem CellsAt.below {w w' : World} {b o : Nat} {cs : List Value} (h : CellsAt w b o cs) (hk : Below w.heap.size w w') : CellsAt w' b o cs :=
  h.kept (p := fun _ => False) (Kept.of_below hk) id
theorem CellsAt.alloc {w : World} {b o : Nat} {cs : List Value} (h : CellsAt w b o cs) (x : Obj) : CellsAt (w.alloc x) b o cs := h.below ((Below.refl _ _).alloc (Nat.le_refl _) x)
/-- A store into one of them. -/
theorem CellsAt.set {w : World} {b o : Nat} {cs : List Value} (h : CellsAt w b o cs) {k : Nat} (hk : k < cs.length) (v : Value) : CellsAt (w.setCell ⟨b, o + k, none⟩ v) b o (cs.set k v) := by
  refine ⟨by rw [World.size_setCell]; exact h.1, fun i hi => ?_⟩
  rw [List.length_set] at hi
  obtain ⟨h1, h2⟩ := h.2 i hi
  by_cases e : k = i
  · subst e
    have hg : (cs.set k v).getD k default = v := by simp [List.getD, hi]
    rw [hg]
    exact ⟨World.cell?_setCell_same' _ _ _ (by rw [h1]; rfl), by rw [World.frozen?_setCell]; exact h2⟩
  · have hg : (cs.set k v).getD i default = cs.getD i default := by simp [List.getD, List.getElem?_set, e]
    rw [hg]
    exact ⟨by rw [World.cell?_setCell_other _ _ _ _ (by simp [e])]; exact h1, by rw [World.frozen?_setCell]; exact h2⟩
/-- A store elsewhere in its block or in another one. -/
theorem CellsAt.set_far {w : World} {b o : Nat} {cs : List Value} (h : CellsAt w b o cs) {d : Addr} (hd : d.block ≠ b ∨ d.off < o ∨ o + cs.length ≤ d.off) (v : Value) : CellsAt (w.setCell d v) b o cs := by
  refine ⟨by rw [World.size_setCell]; exact h.1, fun i hi => ?_⟩
  obtain ⟨h1, h2⟩ := h.2 i hi
  refine ⟨?_, by rw [World.frozen?_setCell]; exact h2⟩
  rw [World.cell?_setCell_other _ _ _ _ (fun e => ?_)]
  · exact h1
  · subst e
    rcases hd with hd | hd | hd
    · exact hd rfl
    · simp at hd; omega
    · simp at hd; omega
/-- A block that was just laid. -/
theorem CellsAt.new (w : World) (cs : Array Value) (t : TypeId) : CellsAt (w.alloc (.cells cs t)) w.heap.size 0 cs.toList := by
  refine ⟨by simp, fun i hi => ?_⟩
  rw [Array.length_toList] at hi
  rw [Nat.zero_add]
  refine ⟨?_, by simp [go_sem]⟩
  rw [cell_of_row _ _ _ cs t (0, 0) Array.getElem?_push_size]
  simp [List.getD, hi]
theorem CellsAt.part {w : World} {b o : Nat} {cs : List Value} (h : CellsAt w b o cs) (k n : Nat) (hk : k + n ≤ cs.length) : CellsAt w b (o + k) ((cs.drop k).take n) := by
  refine ⟨h.1, fun i hi => ?_⟩
  rw [List.length_take, List.length_drop] at hi
  obtain ⟨h1, h2⟩ := h.2 (k + i) (by omega)
  rw [← Nat.add_assoc] at h1 h2
  refine ⟨?_, h2⟩
  rw [h1]
  simp [List.getD, List.getElem?_take, show i < n by omega]
end Go.Proofs.Ytijcmdcjjcemfaa

/- Lists of texts that came in, opened: how long they are by the form's own reach; a struct of one field by value. -/

namespace Go.Proofs.Ytijcmdcjjcemfaa
open Go.ChangeShapes Go.WideShapes Go.ChangeAt Go.RowKit Go.Joins
open Go.Deep (oneCellFields hone_of)
set_option linter.unusedVariables false
set_option linter.unusedSimpArgs false

theorem reach_eq : reachBytes = 140737488351232 := rfl
theorem weightsAll_mem {H : Type} {P : Program} {e : TypeId} : ∀ {l : List (DataW H)} {d : DataW H}, d ∈ l → ∀ n ∈ d.weights P e, n ∈ DataW.weightsAll P e l
  | d' :: r, d, hd, n, hn => by
    simp only [DataW.weightsAll, List.mem_append]
    rcases List.mem_cons.1 hd with rfl | h
    · exact Or.inl hn
    · exact Or.inr (weightsAll_mem h n hn)

/-- A reading within the form's reach. -/
def Fits {H : Type} (P : Program) (t : TypeId) (d : DataW H) : Prop := ∀ n ∈ d.weights P t, n ≤ reachBytes

theorem fits_one {H : Type} {P : Program} {t : TypeId} {d : DataW H} (h : (DataW.weightsEach P [t] [d]).all (· ≤ reachBytes) = true) : Fits P t d := by
  intro n hn
  exact of_decide_eq_true (List.all_eq_true.1 h n (by simp [DataW.weightsEach, hn]))
theorem weightsEach_mem {H : Type} {P : Program} : ∀ {ts : List TypeId} {ds : List (DataW H)} {j : Nat} {t : TypeId} {d : DataW H}, ts[j]? = some t → ds[j]? = some d → ∀ n ∈ d.weights P t, n ∈ DataW.weightsEach P ts ds := DataW.weights_mem_each
theorem fits_field {H : Type} {P : Program} {t : TypeId} {fs : Array Field} {parts : List (DataW H)} (hu : P.underlying t = some (.struct fs)) (h : Fits P t (.agg parts)) {j : Nat} {f : Field} {d : DataW H} (hf : fs[j]? = some f) (hd : parts[j]? = some d) : Fits P f.type d := by
  intro n hn
  refine h n ?_
  simp only [DataW.weights, hu]
  exact DataW.weights_mem_each (j := j) (by simp [hf]) hd n hn

/-- A slice value of texts that reads as these. -/
def TextsIn (w : World) (v : Value) (ss : List ByteArray) : Prop :=
  ∃ p cap, v = .slice p ss.length cap ∧ ss.length * 16 ≤ 140737488351232 ∧ (∀ s ∈ ss, s.size ≤ 140737488351232) ∧ SliceIn w p ss.length (fun i => .string (ss.getD i ByteArray.empty))

theorem textsIn_open {H : Type} {enc : TypeId × Value → H} {P : Program} {w : World} {base : Nat} {spare : Nat → Bool} {held : Bool} {t e : TypeId} {fuel : Nat} {v : Value} {x : DataW H × List MemPlace}
    (ht : P.underlying t = some (.slice e)) (he : P.underlying e = some .string) (hc : P.cellsOf e = 1) (hb : P.bytesOf e = 16)
    (h : DataW.trod enc P w base spare held fuel t [v] = some x) (hf : Fits P t x.1) : ∃ ss, TextsIn w v ss := by
  rcases open_strings ht he hc h with ⟨hcs, hx⟩ | ⟨a, len, cap, ss, hcs, _, hl, hm, hz, hx, hcell, hws⟩
  · simp only [List.cons.injEq, and_true] at hcs
    exact ⟨[], _, _, hcs, by simp, by simp, by simp, fun i hi => by simp at hi⟩
  · simp only [List.cons.injEq, and_true] at hcs
    subst hcs
    have hlz : len ≤ ss.length := by rw [hz]; split <;> omega
    have hlen : (ss.take len).length = len := by rw [List.length_take, Nat.min_eq_left hlz]
    rw [hx] at hf
    have hs1 : len * 16 ≤ 140737488351232 := by
      have := hf ((ss.length) * 16) (by simp [DataW.weights, ht, hb, strs]; left; omega)
      rw [reach_eq] at this; omega
    have hs2 : ∀ s ∈ ss.take len, s.size ≤ 140737488351232 := by
      intro s hs
      have := hf s.size (by
        simp only [DataW.weights, ht, List.mem_cons, List.mem_append]
        refine Or.inr (Or.inl (weightsAll_mem (d := .lit (.string s.data.toList)) ?_ _ ?_))
        · simp only [strs, List.mem_map]
          exact ⟨s, hs, rfl⟩
        · simp [DataW.weights])
      rw [reach_eq] at this; exact this
    refine ⟨ss.take len, some a, cap, by rw [hlen], by rw [hlen]; exact hs1, hs2, ?_⟩
    rw [hlen]
    refine ⟨by omega, fun i hi => ?_⟩
    have hci := hcell i (by omega)
    obtain ⟨b, off, spot⟩ := a
    have hspot : spot = none := by simpa [Addr.add] using World.cell?_spot (hcell 0 (by omega))
    subst hspot
    rw [Go.WideShapes.add_plain] at hci
    refine ⟨b, off, rfl, cell_block hci, ?_⟩
    rw [hci]
    simp [List.getD, List.getElem?_take, hi]

theorem text_at {w : World} {p : Option Addr} {ss : List ByteArray} (h : SliceIn w p ss.length (fun i => .string (ss.getD i ByteArray.empty))) (hs : ∀ s ∈ ss, s.size ≤ 140737488351232) {i : Nat} (hi : i < ss.length) :
    ∃ (b off : Nat) (s : ByteArray), p = some ⟨b, off, none⟩ ∧ s.size ≤ 140737488351232 ∧ Hid (s = ss.getD i ByteArray.empty) ∧ w.cell? ⟨b, off + i, none⟩ = some (.string s) := by
  obtain ⟨b, off, hp, _, hc⟩ := h.2 i hi
  exact ⟨b, off, ss.getD i ByteArray.empty, hp, by rw [← List.getElem_eq_getD (h := hi)]; exact hs _ (List.getElem_mem hi), rfl, hc⟩

/-- A struct of one field by value. -/
theorem open_agg1 {H : Type} {enc : TypeId × Value → H} {P : Program} {w : World} {base : Nat} {spare : Nat → Bool} {held : Bool} {r : Reach} {b0 : Nat} {t : TypeId} {f0 : Field} {v : Value} {d : DataW H} {p : List MemPlace} (hs : P.underlying t = some (.struct #[f0])) (hone : oneCellFields P #[f0] = true) (hC : P.cellsOf t = 1)
    (hv : Value.okWide P w r b0 t v) (h : DataW.Trod enc P w base spare held t v d p) :
    ∃ (v0 : Value) (y0 : DataW H × List MemPlace) (n : Nat), v = .agg #[v0] ∧ d = .agg [y0.1] ∧ DataW.trod enc P w base spare held n f0.type [v0] = some y0 := by
  obtain ⟨cs, rfl, hsz⟩ := okWide_struct hs hv
  obtain ⟨c0, rfl⟩ : ∃ c0, cs = #[c0] := by
    have h1 := hsz.trans hC
    exact ⟨cs[0], by apply Array.ext (by simp [h1]); intro i h1 h2; have : i = 0 := by simp at h2; omega
                     subst this; rfl⟩
  obtain ⟨fuel, hf⟩ := h
  obtain ⟨y0, n, hx, _, h0⟩ := trod_struct1 hs hf
  obtain ⟨o0, k0⟩ := hone_of hone 0 f0 rfl
  simp only [Prod.mk.injEq] at hx
  exact ⟨c0, y0, n, rfl, hx.1, by simpa [o0, k0, Value.cells] using h0⟩

/-- How much some texts are. -/
def total (ss : List ByteArray) : Nat := ss.length + (ss.map ByteArray.size).sum
theorem total_get {ss : List ByteArray} {i : Nat} (h : i < ss.length) : (ss.getD i ByteArray.empty).size ≤ total ss := by
  have hm : (ss.getD i ByteArray.empty) ∈ ss := by rw [← List.getElem_eq_getD (h := h)]; exact List.getElem_mem h
  have : ∀ {l : List ByteArray} {s : ByteArray}, s ∈ l → s.size ≤ (l.map ByteArray.size).sum := by
    intro l
    induction l with
    | nil => intro s hs; simp at hs
    | cons a l ih =>
      intro s hs
      rcases List.mem_cons.1 hs with rfl | hs
      · simp
      · have := ih hs; simp; omega
  have := this hm
  unfold total; omega
theorem total_step {ss : List ByteArray} {k : Nat} (h : k < ss.length) : ((ss.take (k + 1)).map ByteArray.size).sum = ((ss.take k).map ByteArray.size).sum + (ss.getD k ByteArray.empty).size := by
  rw [List.take_succ_eq_append_getElem h, List.map_append, List.sum_append, ← List.getElem_eq_getD (h := h)]
  simp
end Go.Proofs.Ytijcmdcjjcemfaa

/- A text's bytes as natural numbers. -/

namespace Go.Proofs.Ytijcmdcjjcemfaa

/-- A string's bytes as natural numbers. -/
def bytesOf (s : ByteArray) : List Nat := s.data.toList.map UInt8.toNat
theorem bytesOf_length (s : ByteArray) : (bytesOf s).length = s.size := by simp [bytesOf]
theorem bytesOf_lt (s : ByteArray) : ∀ b ∈ bytesOf s, b < 256 := by
  intro b hb
  obtain ⟨c, _, rfl⟩ := List.mem_map.1 hb
  exact c.toNat_lt
theorem bytesOf_take (s : ByteArray) (k : Nat) (h : k < s.size) : (bytesOf s).take (k + 1) = (bytesOf s).take k ++ [s[k].toNat] := by
  rw [List.take_succ_eq_append_getElem (by rw [bytesOf_length]; exact h)]
  simp [bytesOf]; try rfl

end Go.Proofs.Ytijcmdcjjcemfaa

/- Texts made of bytes: what make and the conversions between bytes and texts come to. -/

namespace Go.Proofs.Ytijcmdcjjcemfaa
open Go.ChangeShapes Go.WideShapes Go.ChangeAt Go.RowKit Go.Joins
set_option linter.unusedVariables false
set_option linter.unusedSimpArgs false

/-- A text of these numbers. -/
def strOf8 (ns : List Nat) : ByteArray := ⟨(ns.map UInt8.ofNat).toArray⟩
def cellsOf8 (ns : List Nat) : Array Value := (ns.map fun n : Nat => Value.int .u8 (n : Int)).toArray
theorem strOf8_size (ns : List Nat) : (strOf8 ns).size = ns.length := by simp [strOf8, ByteArray.size]

theorem push_fold (ns : List Int) : ∀ s : ByteArray, ns.foldl (fun r n => r.push (UInt8.ofNat n.toNat)) s = ⟨(s.data.toList ++ ns.map fun n => UInt8.ofNat n.toNat).toArray⟩ := by
  induction ns with
  | nil => intro s; cases s; simp
  | cons n ns ih =>
    intro s
    simp only [List.foldl_cons, ih]
    cases s
    simp [ByteArray.push]

theorem convert_bytes {P : Program} {w : World} {src dst e : TypeId} {b off cap : Nat} {ns : List Nat}
    (hs : P.underlying src = some (.slice e)) (he : P.underlying e = some (.int .u8)) (hd : P.underlying dst = some .string)
    (h : ∀ i, i < ns.length → w.cell? ⟨b, off + i, none⟩ = some (.int .u8 ((ns.getD i 0 : Nat) : Int))) :
    (convert src dst (.slice (some ⟨b, off, none⟩) ns.length cap)).run P w = .ok (.string (strOf8 ns)) w := by
  rw [run_convert_bytes_string w src dst e _ _ _ hs he hd]
  have hl : (loadCells ⟨b, off, none⟩ ns.length).run P w = .ok ((ns.map (fun n : Nat => (n : Int))).map (Value.int .u8)).toArray w := by
    have h1 : ns.length = ((ns.map (fun n : Nat => (n : Int))).map (Value.int .u8)).length := by simp
    rw [h1]
    refine run_loadCells_list (P := P) w ⟨b, off, none⟩ _ (fun j v hv => ?_)
    have hj : j < ns.length := by
      have := (List.getElem?_eq_some_iff.1 hv).1
      simpa using this
    rw [Go.WideShapes.add_plain, h j hj]
    simp only [List.map_map, List.getElem?_map, List.getElem?_eq_getElem hj, Option.map_some, Function.comp] at hv
    rw [← Option.some.inj hv, List.getD_eq_getElem?_getD, List.getElem?_eq_getElem hj]
    rfl
  rw [run_bytesToString w _ _ _ _ hl, push_fold]
  congr 3
  simp [strOf8, Function.comp_def]

theorem cells8_cell {w : World} {B : Nat} {ns : List Nat} {T : TypeId} {fr : Nat × Nat} (h : w.heap[B]? = some (.cells (cellsOf8 ns) T fr)) : ∀ i, i < ns.length → w.cell? ⟨B, 0 + i, none⟩ = some (.int .u8 ((ns.getD i 0 : Nat) : Int)) := by
  intro i hi
  rw [Nat.zero_add, cell_of_row w B i _ _ _ h]
  simp [cellsOf8, hi]

theorem hmk8 {n : Nat} (hn : n ≤ 100000) : ∀ w, (Instr.makeSlice 35 (.int .i64 (n : Int)) (.int .i64 (n : Int))).run Try.prog w = .ok (.slice (some ⟨w.heap.size, 0, none⟩) n n) (w.alloc (.cells (cellsOf8 (List.replicate n 0)) 5)) := by
  intro w
  have hi : ∃ i, Try.prog.info? 5 = some i ∧ i.zero = some (.int .u8 0) ∧ i.size = 1 ∧ i.bytes = 1 := by
    have h : (Try.prog.info? 5).map (fun i => (i.zero, i.size, i.bytes)) = some (some (.int .u8 0), 1, 1) := by kernel_rfl
    obtain ⟨i0, h1, h2, h3, h4⟩ := info_parts h
    exact ⟨i0, h1, h2, h3, h4⟩
  obtain ⟨i, h1, h2, h3, h4⟩ := hi
  have hr := run_make (P := Try.prog) w 35 5 i _ Try.underlying35 h1 h2 .i64 .i64 (n : Int) (n : Int) (by omega) (by omega) (by rw [h4]; omega) (by omega)
  rw [hr]
  have e : madeCells (Value.int .u8 0).cells ((n : Int).toNat * i.size) = cellsOf8 (List.replicate n 0) := by
    rw [h3, Int.toNat_natCast, Nat.mul_one]
    apply Array.ext
    · simp [madeCells, cellsOf8]
    · intro j h1 h2
      simp [madeCells, Value.cells, cellsOf8, Nat.mod_one]
  rw [e, Int.toNat_natCast]

/-- A block whose cells hold these bytes, and may be written. -/
def BytesBlk (w : World) (B : Nat) (ns : List Nat) : Prop := ∀ i, i < ns.length → ns.getD i 0 < 256 ∧ w.cell? ⟨B, i, none⟩ = some (.int .u8 ((ns.getD i 0 : Nat) : Int)) ∧ w.frozen? ⟨B, i, none⟩ = false
theorem BytesBlk.next {w : World} {B k v : Nat} {ns : List Nat} (h : BytesBlk w B ns) (hv : v < 256) : BytesBlk (w.setCell ⟨B, k, none⟩ (.int .u8 (v : Int))) B (ns.set k v) := by
  intro i hi
  rw [List.length_set] at hi
  obtain ⟨h1, h2, h3⟩ := h i hi
  by_cases e : k = i
  · subst e
    have hg : (ns.set k v).getD k 0 = v := by simp [List.getD, hi]
    rw [hg]
    exact ⟨hv, World.cell?_setCell_same' _ _ _ (by rw [h2]; rfl), by rw [World.frozen?_setCell]; exact h3⟩
  · have hg : (ns.set k v).getD i 0 = ns.getD i 0 := by simp [List.getD, List.getElem?_set, e]
    rw [hg]
    exact ⟨h1, by rw [World.cell?_setCell_other _ _ _ _ (by simp [e])]; exact h2, by rw [World.frozen?_setCell]; exact h3⟩
theorem BytesBlk.drew {w : World} {B : Nat} {ns : List Nat} (h : BytesBlk w B ns) : BytesBlk w.drew B ns := h
theorem BytesBlk.cells {w : World} {B : Nat} {ns : List Nat} (h : BytesBlk w B ns) : ∀ i, i < ns.length → w.cell? ⟨B, 0 + i, none⟩ = some (.int .u8 ((ns.getD i 0 : Nat) : Int)) := fun i hi => by
  rw [Nat.zero_add]; exact (h i hi).2.1
theorem bytesBlk_of (w : World) (e : TypeId) (s : ByteArray) : BytesBlk (Lib.bytesWorld w e s) w.heap.size (bytesOf s) := by
  intro i hi
  rw [bytesOf_length] at hi
  have hg : (bytesOf s).getD i 0 = (s.data.toList.getD i 0).toNat := by simp [bytesOf, List.getD, hi]
  refine ⟨by rw [hg]; exact UInt8.toNat_lt _, by rw [hg]; exact Lib.bytesWorld_cell w e s i hi, ?_⟩
  have h := Lib.bytesWorld_at_new w e s
  have hsz : i < (Lib.bytesCells w e s).size := by simp [Lib.bytesCells]; have : s.data.size = s.size := rfl; omega
  unfold World.frozen?
  rw [h]
  simp; omega
theorem bytesWorld_below (w : World) (e : TypeId) (s : ByteArray) : Below w.heap.size w (Lib.bytesWorld w e s) :=
  ⟨rfl, rfl, rfl, by rw [Lib.bytesWorld_size]; omega, fun k hk => Lib.bytesWorld_at_old w e s k hk⟩

theorem bytesOf_strOf8 {ns : List Nat} (h : ∀ n ∈ ns, n < 256) : bytesOf (strOf8 ns) = ns := by
  simp only [bytesOf, strOf8, List.toList_toArray, List.map_map]
  conv => rhs; rw [← List.map_id ns]
  apply List.map_congr_left
  intro a ha
  have := h a ha
  simp [UInt8.toNat_ofNat, Nat.mod_eq_of_lt this]
end Go.Proofs.Ytijcmdcjjcemfaa
