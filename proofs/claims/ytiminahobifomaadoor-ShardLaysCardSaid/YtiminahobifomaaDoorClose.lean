/- The last step that all laws share: a law's call answers true and changes nothing that was there, so its row's 'post' holds. Bytes and numbers in slices that came in, as lists. -/
import Derived.Test.YtiminahobifomaaDoorRows
import Derived.WalkKit
import Derived.ProofKit
import Derived.OpenShut
import Derived.SizedLaws
import Derived.Lib.SmallJoins
namespace Go.Proofs.YtiminahobifomaaDoor
open Go.ChangeShapes Go.WideShapes Go.ChangeAt Go.RowKit Go.Joins
set_option linter.unusedVariables false
set_option linter.unusedSimpArgs false

theorem lawPost {H : Type} {enc : TypeId × Value → H} {P : Program} {f : Func} {s : ChangeSpec} {t tb : TypeId} {W W' : World} {v0 : Value} {d0 : DataW H} {p : List MemPlace}
    (hl : laidOutB P = true) (hr : P.readableRec t = true) (hrow : t < P.types.size)
    (hp : f.params = #[t]) (hrt : f.resultTypes = #[tb]) (hb : P.underlying tb = some .bool)
    (hs : s.fn H ([d0] ++ []) = { results := [.lit (.bool true)], args := [d0] }) (hsv : s.vars = [])
    (hW' : DataW.Whole enc P f.params.toList s.vars false W [v0] [d0] [] p)
    (h0 : DataW.Trod enc P W 0 (fun _ => true) true t v0 d0 p) (hbel : Below W.heap.size W W') :
    s.post enc P f false true false false W #[v0] (.bool true) W' := by
  refine ⟨[d0], [], p, [], p, [], hW', ?_, ?_, ?_, World.keptBut_mono (fun q hq => ?_) (hbel.frame (· ∈ p)), fun h => by cases h⟩
  · rw [hrt, hs]
    exact trodAll_mk1 (shut_bool hb _)
  · rw [hp, hs]
    exact trodAll_mk1 (Below.trod hl hr hrow h0 hbel (fun x hx => hW'.lt x hx))
  · rw [hsv, hs]
    exact rfl
  · exact ⟨hq, Or.inr (Or.inl hq)⟩

/-- A slice value of ints that reads as these numbers in a world. -/
def NumsIn (w : World) (v : Value) (zs : List Int) : Prop :=
  (∀ n ∈ zs, -9223372036854775808 ≤ n ∧ n ≤ 9223372036854775807) ∧ ((zs = [] ∧ ∃ p cap, v = .slice p 0 cap) ∨
    ∃ b off cap, v = .slice (some ⟨b, off, none⟩) zs.length cap ∧ zs ≠ [] ∧ zs.length ≤ maxLen ∧ b < w.heap.size ∧ ∀ i, i < zs.length → w.cell? ⟨b, off + i, none⟩ = some (.int .i64 (zs.getD i 0)))

/-- A slice value of bytes that reads as these numbers in a world: it is empty, or its cells hold them. -/
def BytesIn (w : World) (v : Value) (ns : List Nat) : Prop :=
  (∀ n ∈ ns, n < 256) ∧ ((ns = [] ∧ ∃ p cap, v = .slice p 0 cap) ∨
    ∃ b off cap, v = .slice (some ⟨b, off, none⟩) ns.length cap ∧ ns ≠ [] ∧ ns.length ≤ maxLen ∧ b < w.heap.size ∧ ∀ i, i < ns.length → w.cell? ⟨b, off + i, none⟩ = some (.int .u8 ((ns.getD i 0 : Nat) : Int)))

theorem toNat_back {zs : List Int} (h : ∀ n ∈ zs, 0 ≤ n ∧ n ≤ 255) : (zs.map Int.toNat).map (fun n : Nat => (n : Int)) = zs := by
  rw [List.map_map]
  conv => rhs; rw [← List.map_id zs]
  apply List.map_congr_left
  intro a ha
  have := h a ha
  simp; omega

theorem cell_block {w : World} {a : Addr} {v : Value} (h : w.cell? a = some v) : a.block < w.heap.size := by
  by_cases hb : a.block < w.heap.size
  · exact hb
  · have e : w.heap[a.block]? = none := by simp; omega
    simp [World.cell?, e] at h

theorem bytesIn_open {H : Type} {enc : TypeId × Value → H} {P : Program} {w : World} {base : Nat} {spare : Nat → Bool} {held : Bool} {t e : TypeId} {fuel : Nat} {v : Value} {x : DataW H × List MemPlace}
    (ht : P.underlying t = some (.slice e)) (he : P.underlying e = some (.int .u8)) (hc : P.cellsOf e = 1)
    (h : DataW.trod enc P w base spare held fuel t [v] = some x) : ∃ ns, BytesIn w v ns := by
  rcases open_ints ht he hc h with ⟨hcs, hx⟩ | ⟨a, len, cap, zs, hcs, _, hl, hm, hz, hx, hcell, hwf⟩
  · simp only [List.cons.injEq, and_true] at hcs
    exact ⟨[], by simp, Or.inl ⟨rfl, _, _, hcs⟩⟩
  · simp only [List.cons.injEq, and_true] at hcs
    subst hcs
    by_cases h0 : len = 0
    · subst h0; exact ⟨[], by simp, Or.inl ⟨rfl, _, _, rfl⟩⟩
    · have hlz : len ≤ zs.length := by rw [hz]; split <;> omega
      obtain ⟨b, off, rfl, hc'⟩ := ints_at hcell (by omega)
      have hbd : ∀ n ∈ zs, 0 ≤ n ∧ n ≤ 255 := fun n hn => by
        have := hwf n hn
        simpa [Lit.wf, IntKind.min, IntKind.max, IntKind.signed, IntKind.bits] using this
      refine ⟨(zs.take len).map Int.toNat, ?_, Or.inr ⟨b, off, cap, ?_, ?_, ?_, ?_, ?_⟩⟩
      · intro n hn
        obtain ⟨z, hz', rfl⟩ := List.mem_map.1 hn
        have := hbd z (List.mem_of_mem_take hz')
        omega
      · simp [List.length_take, Nat.min_eq_left hlz]
      · intro e
        have := congrArg List.length e
        rw [List.length_map, List.length_take, List.length_nil] at this
        omega
      · rw [List.length_map, List.length_take]; omega
      · exact cell_block (hc' 0 (by omega))
      · intro i hi
        simp only [List.length_map, List.length_take] at hi
        rw [hc' i (by omega)]
        have hi2 : i < zs.length := by omega
        have := hbd _ (List.getElem_mem hi2)
        simp [List.getD, List.getElem?_take, hi2, show i < len by omega]
        omega

theorem numsIn_open {H : Type} {enc : TypeId × Value → H} {P : Program} {w : World} {base : Nat} {spare : Nat → Bool} {held : Bool} {t e : TypeId} {fuel : Nat} {v : Value} {x : DataW H × List MemPlace}
    (ht : P.underlying t = some (.slice e)) (he : P.underlying e = some (.int .i64)) (hc : P.cellsOf e = 1)
    (h : DataW.trod enc P w base spare held fuel t [v] = some x) : ∃ zs, NumsIn w v zs := by
  rcases open_ints ht he hc h with ⟨hcs, hx⟩ | ⟨a, len, cap, zs, hcs, _, hl, hm, hz, hx, hcell, hwf⟩
  · simp only [List.cons.injEq, and_true] at hcs
    exact ⟨[], by simp, Or.inl ⟨rfl, _, _, hcs⟩⟩
  · simp only [List.cons.injEq, and_true] at hcs
    subst hcs
    by_cases h0 : len = 0
    · subst h0; exact ⟨[], by simp, Or.inl ⟨rfl, _, _, rfl⟩⟩
    · have hlz : len ≤ zs.length := by rw [hz]; split <;> omega
      obtain ⟨b, off, rfl, hc'⟩ := ints_at hcell (by omega)
      have hbd : ∀ n ∈ zs, -9223372036854775808 ≤ n ∧ n ≤ 9223372036854775807 := fun n hn => by
        have := hwf n hn
        simpa [Lit.wf, IntKind.min, IntKind.max, IntKind.signed, IntKind.bits] using this
      refine ⟨zs.take len, fun n hn => hbd n (List.mem_of_mem_take hn), Or.inr ⟨b, off, cap, ?_, ?_, ?_, ?_, ?_⟩⟩
      · rw [List.length_take, Nat.min_eq_left hlz]
      · intro e
        have := congrArg List.length e
        rw [List.length_take, List.length_nil] at this
        omega
      · rw [List.length_take]; omega
      · exact cell_block (hc' 0 (by omega))
      · intro i hi
        rw [List.length_take] at hi
        rw [hc' i (by omega)]
        have hi2 : i < zs.length := by omega
        simp [List.getD, List.getElem?_take, show i < len by omega]

/-- A slice whose cells are known, whether it is nil or not. -/
def SliceIn (w : World) (p : Option Addr) (n : Nat) (f : Nat → Value) : Prop :=
  n ≤ 9223372036854775807 ∧ ∀ i, i < n → ∃ b off, p = some ⟨b, off, none⟩ ∧ b < w.heap.size ∧ w.cell? ⟨b, off + i, none⟩ = some (f i)

theorem SliceIn.below {w w' : World} {p : Option Addr} {n : Nat} {f : Nat → Value} (h : SliceIn w p n f) (hb : Below w.heap.size w w') : SliceIn w' p n f := by
  refine ⟨h.1, fun i hi => ?_⟩
  obtain ⟨b, off, hp, hlt, hc⟩ := h.2 i hi
  exact ⟨b, off, hp, Nat.lt_of_lt_of_le hlt hb.size, by rw [hb.cell (p := ⟨b, off + i, none⟩) hlt]; exact hc⟩

theorem bytesIn_slice {w : World} {v : Value} {ns : List Nat} (h : BytesIn w v ns) :
    ∃ p cap, v = .slice p ns.length cap ∧ SliceIn w p ns.length (fun i => .int .u8 ((ns.getD i 0 : Nat) : Int)) := by
  obtain ⟨hlt, ⟨rfl, p, cap, rfl⟩ | ⟨b, off, cap, rfl, hne, hm, hb, hc⟩⟩ := h
  · exact ⟨p, cap, rfl, by simp, fun i hi => by simp at hi⟩
  · refine ⟨_, cap, rfl, hm, fun i hi => ⟨b, off, rfl, hb, hc i hi⟩⟩

theorem numsIn_slice {w : World} {v : Value} {zs : List Int} (h : NumsIn w v zs) :
    ∃ p cap, v = .slice p zs.length cap ∧ SliceIn w p zs.length (fun i => .int .i64 (zs.getD i 0)) := by
  obtain ⟨hlt, ⟨rfl, p, cap, rfl⟩ | ⟨b, off, cap, rfl, hne, hm, hb, hc⟩⟩ := h
  · exact ⟨p, cap, rfl, by simp, fun i hi => by simp at hi⟩
  · refine ⟨_, cap, rfl, hm, fun i hi => ⟨b, off, rfl, hb, hc i hi⟩⟩

theorem getD_lt {ns : List Nat} {m : Nat} (h : ∀ n ∈ ns, n < m) {i : Nat} (hi : i < ns.length) : ns.getD i 0 < m := by
  rw [← List.getElem_eq_getD (h := hi)]; exact h _ (List.getElem_mem hi)

theorem byte_at {w : World} {p : Option Addr} {ns : List Nat} (h : SliceIn w p ns.length (fun i => .int .u8 ((ns.getD i 0 : Nat) : Int))) (hlt : ∀ n ∈ ns, n < 256) {i : Nat} (hi : i < ns.length) :
    ∃ (b off x : Nat), p = some ⟨b, off, none⟩ ∧ x < 256 ∧ Hid (x = ns.getD i 0) ∧ w.cell? ⟨b, off + i, none⟩ = some (.int .u8 (x : Int)) := by
  obtain ⟨b, off, hp, _, hc⟩ := h.2 i hi
  exact ⟨b, off, ns.getD i 0, hp, getD_lt hlt hi, rfl, hc⟩
theorem byte_next {w : World} {b off : Nat} {ns : List Nat} (h : SliceIn w (some ⟨b, off, none⟩) ns.length (fun i => .int .u8 ((ns.getD i 0 : Nat) : Int))) (hlt : ∀ n ∈ ns, n < 256) {i : Nat} (hi : i < ns.length) :
    ∃ (x : Nat), x < 256 ∧ Hid (x = ns.getD i 0) ∧ w.cell? ⟨b, off + i, none⟩ = some (.int .u8 (x : Int)) := by
  obtain ⟨b', off', x, hp, h1, h2, h3⟩ := byte_at h hlt hi
  simp only [Option.some.injEq, Addr.mk.injEq, and_true] at hp
  obtain ⟨rfl, rfl⟩ := hp
  exact ⟨x, h1, h2, h3⟩
theorem num_at {w : World} {p : Option Addr} {zs : List Int} (h : SliceIn w p zs.length (fun i => .int .i64 (zs.getD i 0))) (hbd : ∀ n ∈ zs, -9223372036854775808 ≤ n ∧ n ≤ 9223372036854775807) {i : Nat} (hi : i < zs.length) :
    ∃ (b off : Nat) (x : Int), p = some ⟨b, off, none⟩ ∧ (-9223372036854775808 ≤ x ∧ x ≤ 9223372036854775807) ∧ Hid (x = zs.getD i 0) ∧ w.cell? ⟨b, off + i, none⟩ = some (.int .i64 x) := by
  obtain ⟨b, off, hp, _, hc⟩ := h.2 i hi
  exact ⟨b, off, zs.getD i 0, hp, by rw [← List.getElem_eq_getD (h := hi)]; exact hbd _ (List.getElem_mem hi), rfl, hc⟩

/-- The box of a struct of two cells that came in by value. -/
theorem box2_facts (w : World) (v0 v1 : Value) (T : TypeId) :
    Below w.heap.size w (w.alloc (.cells #[v0, v1] T)) ∧ (w.alloc (.cells #[v0, v1] T)).cell? ⟨w.heap.size, 0, none⟩ = some v0 ∧
    (w.alloc (.cells #[v0, v1] T)).cell? ⟨w.heap.size, 1, none⟩ = some v1 ∧ (w.alloc (.cells #[v0, v1] T)).heap.size = w.heap.size + 1 :=
  ⟨(Below.refl _ _).alloc (Nat.le_refl _) _, by simp [go_sem], by simp [go_sem], by simp⟩

theorem below_box {W W' : World} {b : Nat} {v : Value} (hc : Hid (W.cell? ⟨b, 0, none⟩ = some v)) (hs : Hid (W.heap.size = b + 1)) (h : Below W.heap.size W W') : W'.cell? ⟨b, 0, none⟩ = some v := by
  rw [h.cell (p := ⟨b, 0, none⟩) (by show b < _; rw [hs.out]; omega)]; exact hc.out

theorem below_box1 {W W' : World} {b : Nat} {v : Value} (hc : Hid (W.cell? ⟨b, 1, none⟩ = some v)) (hs : Hid (W.heap.size = b + 1)) (h : Below W.heap.size W W') : W'.cell? ⟨b, 1, none⟩ = some v := by
  rw [h.cell (p := ⟨b, 1, none⟩) (by show b < _; rw [hs.out]; omega)]; exact hc.out

theorem quiet_left {P : Program} {f : FuncId} {args : Array Value} {w : World} {n : Nat} {v : Value}
    (h : Calls P f args (w.drewN n) fun e w' => e = .returned v ∧ w.drewN n = w') : Calls P f args (w.drewN n) fun e w'' => e = .returned v ∧ ∃ m, w'' = w.drewN m :=
  h.mono fun _ _ ⟨he, hm⟩ => ⟨he, n, hm.symm⟩
theorem quiet_add_left {P : Program} {f : FuncId} {args : Array Value} {w : World} {a n : Nat} {v : Value}
    (h : Calls P f args (w.drewN (a + n)) fun e w' => e = .returned v ∧ w.drewN (a + n) = w') :
    Calls P f args (w.drewN (a + n)) fun e w'' => e = .returned v ∧ ∃ m, w'' = w.drewN (a + m) :=
  h.mono fun _ _ ⟨he, hm⟩ => ⟨he, n, hm.symm⟩

theorem below_drewN {B : Nat} {a w : World} (h : Below B a w) (n : Nat) : Below B a (w.drewN n) :=
  ⟨h.os, h.tape, h.output, h.size, h.block⟩

theorem ownKnobA : ownKnob Tryd.prog.godebug = none := by kernel_rfl
theorem laidOutA : laidOutB Tryd.prog = true := by kernel_rfl
end Go.Proofs.YtiminahobifomaaDoor
