/- Lists of texts that came in, opened: how long they are by the form's own reach; a struct of one field by value. -/
import Derived.Test.YtiminahobifomaaDoorClose
namespace Go.Proofs.YtiminahobifomaaDoor
open Go.ChangeShapes Go.WideShapes Go.ChangeAt Go.RowKit Go.Joins
open Go.Deep (oneCellFields hone_of)
set_option linter.unusedVariables false
set_option linter.unusedSimpArgs false

theorem reach_eq : reachBytes = 140737488351232 := rfl
theorem weightsAll_mem {H : Type} {P : Program} {e : TypeId} : ∀ {l : List (DataW H)} {d : DataW H}, d ∈ l → ∀ n ∈ d.weights P e, n ∈ DataW.weightsAll P e l
  | d' :: r, d, hd, n, hn => by
    simp only [DataW.weightsAll, List.mem_append]
    rcases List.mem_cons.1 hd with rfl | h
    · exact Or.inl hn
    · exact Or.inr (weightsAll_mem h n hn)

/-- A reading within the form's reach. -/
def Fits {H : Type} (P : Program) (t : TypeId) (d : DataW H) : Prop := ∀ n ∈ d.weights P t, n ≤ reachBytes

theorem fits_one {H : Type} {P : Program} {t : TypeId} {d : DataW H} (h : (DataW.weightsEach P [t] [d]).all (· ≤ reachBytes) = true) : Fits P t d := by
  intro n hn
  exact of_decide_eq_true (List.all_eq_true.1 h n (by simp [DataW.weightsEach, hn]))
theorem weightsEach_mem {H : Type} {P : Program} : ∀ {ts : List TypeId} {ds : List (DataW H)} {j : Nat} {t : TypeId} {d : DataW H}, ts[j]? = some t → ds[j]? = some d → ∀ n ∈ d.weights P t, n ∈ DataW.weightsEach P ts ds := DataW.weights_mem_each
theorem fits_field {H : Type} {P : Program} {t : TypeId} {fs : Array Field} {parts : List (DataW H)} (hu : P.underlying t = some (.struct fs)) (h : Fits P t (.agg parts)) {j : Nat} {f : Field} {d : DataW H} (hf : fs[j]? = some f) (hd : parts[j]? = some d) : Fits P f.type d := by
  intro n hn
  refine h n ?_
  simp only [DataW.weights, hu]
  exact DataW.weights_mem_each (j := j) (by simp [hf]) hd n hn

/-- A slice value of texts that reads as these. -/
def TextsIn (w : World) (v : Value) (ss : List ByteArray) : Prop :=
  ∃ p cap, v = .slice p ss.length cap ∧ ss.length * 16 ≤ 140737488351232 ∧ (∀ s ∈ ss, s.size ≤ 140737488351232) ∧ SliceIn w p ss.length (fun i => .string (ss.getD i ByteArray.empty))

theorem textsIn_open {H : Type} {enc : TypeId × Value → H} {P : Program} {w : World} {base : Nat} {spare : Nat → Bool} {held : Bool} {t e : TypeId} {fuel : Nat} {v : Value} {x : DataW H × List MemPlace}
    (ht : P.underlying t = some (.slice e)) (he : P.underlying e = some .string) (hc : P.cellsOf e = 1) (hb : P.bytesOf e = 16)
    (h : DataW.trod enc P w base spare held fuel t [v] = some x) (hf : Fits P t x.1) : ∃ ss, TextsIn w v ss := by
  rcases open_strings ht he hc h with ⟨hcs, hx⟩ | ⟨a, len, cap, ss, hcs, _, hl, hm, hz, hx, hcell, hws⟩
  · simp only [List.cons.injEq, and_true] at hcs
    exact ⟨[], _, _, hcs, by simp, by simp, by simp, fun i hi => by simp at hi⟩
  · simp only [List.cons.injEq, and_true] at hcs
    subst hcs
    have hlz : len ≤ ss.length := by rw [hz]; split <;> omega
    have hlen : (ss.take len).length = len := by rw [List.length_take, Nat.min_eq_left hlz]
    rw [hx] at hf
    have hs1 : len * 16 ≤ 140737488351232 := by
      have := hf ((ss.length) * 16) (by simp [DataW.weights, ht, hb, strs]; left; omega)
      rw [reach_eq] at this; omega
    have hs2 : ∀ s ∈ ss.take len, s.size ≤ 140737488351232 := by
      intro s hs
      have := hf s.size (by
        simp only [DataW.weights, ht, List.mem_cons, List.mem_append]
        refine Or.inr (Or.inl (weightsAll_mem (d := .lit (.string s.data.toList)) ?_ _ ?_))
        · simp only [strs, List.mem_map]
          exact ⟨s, hs, rfl⟩
        · simp [DataW.weights])
      rw [reach_eq] at this; exact this
    refine ⟨ss.take len, some a, cap, by rw [hlen], by rw [hlen]; exact hs1, hs2, ?_⟩
    rw [hlen]
    refine ⟨by omega, fun i hi => ?_⟩
    have hci := hcell i (by omega)
    obtain ⟨b, off, spot⟩ := a
    have hspot : spot = none := by simpa [Addr.add] using World.cell?_spot (hcell 0 (by omega))
    subst hspot
    rw [Go.WideShapes.add_plain] at hci
    refine ⟨b, off, rfl, cell_block hci, ?_⟩
    rw [hci]
    simp [List.getD, List.getElem?_take, hi]

theorem text_at {w : World} {p : Option Addr} {ss : List ByteArray} (h : SliceIn w p ss.length (fun i => .string (ss.getD i ByteArray.empty))) (hs : ∀ s ∈ ss, s.size ≤ 140737488351232) {i : Nat} (hi : i < ss.length) :
    ∃ (b off : Nat) (s : ByteArray), p = some ⟨b, off, none⟩ ∧ s.size ≤ 140737488351232 ∧ Hid (s = ss.getD i ByteArray.empty) ∧ w.cell? ⟨b, off + i, none⟩ = some (.string s) := by
  obtain ⟨b, off, hp, _, hc⟩ := h.2 i hi
  exact ⟨b, off, ss.getD i ByteArray.empty, hp, by rw [← List.getElem_eq_getD (h := hi)]; exact hs _ (List.getElem_mem hi), rfl, hc⟩

/-- A struct of one field by value. -/
theorem open_agg1 {H : Type} {enc : TypeId × Value → H} {P : Program} {w : World} {base : Nat} {spare : Nat → Bool} {held : Bool} {r : Reach} {b0 : Nat} {t : TypeId} {f0 : Field} {v : Value} {d : DataW H} {p : List MemPlace} (hs : P.underlying t = some (.struct #[f0])) (hone : oneCellFields P #[f0] = true) (hC : P.cellsOf t = 1)
    (hv : Value.okWide P w r b0 t v) (h : DataW.Trod enc P w base spare held t v d p) :
    ∃ (v0 : Value) (y0 : DataW H × List MemPlace) (n : Nat), v = .agg #[v0] ∧ d = .agg [y0.1] ∧ DataW.trod enc P w base spare held n f0.type [v0] = some y0 := by
  obtain ⟨cs, rfl, hsz⟩ := okWide_struct hs hv
  obtain ⟨c0, rfl⟩ : ∃ c0, cs = #[c0] := by
    have h1 := hsz.trans hC
    exact ⟨cs[0], by apply Array.ext (by simp [h1]); intro i h1 h2; have : i = 0 := by simp at h2; omega
                     subst this; rfl⟩
  obtain ⟨fuel, hf⟩ := h
  obtain ⟨y0, n, hx, _, h0⟩ := trod_struct1 hs hf
  obtain ⟨o0, k0⟩ := hone_of hone 0 f0 rfl
  simp only [Prod.mk.injEq] at hx
  exact ⟨c0, y0, n, rfl, hx.1, by simpa [o0, k0, Value.cells] using h0⟩

/-- How much some texts are. -/
def total (ss : List ByteArray) : Nat := ss.length + (ss.map ByteArray.size).sum
theorem total_get {ss : List ByteArray} {i : Nat} (h : i < ss.length) : (ss.getD i ByteArray.empty).size ≤ total ss := by
  have hm : (ss.getD i ByteArray.empty) ∈ ss := by rw [← List.getElem_eq_getD (h := h)]; exact List.getElem_mem h
  have : ∀ {l : List ByteArray} {s : ByteArray}, s ∈ l → s.size ≤ (l.map ByteArray.size).sum := by
    intro l
    induction l with
    | nil => intro s hs; simp at hs
    | cons a l ih =>
      intro s hs
      rcases List.mem_cons.1 hs with rfl | hs
      · simp
      · have := ih hs; simp; omega
  have := this hm
  unfold total; omega
theorem total_step {ss : List ByteArray} {k : Nat} (h : k < ss.length) : ((ss.take (k + 1)).map ByteArray.size).sum = ((ss.take k).map ByteArray.size).sum + (ss.getD k ByteArray.empty).size := by
  rw [List.take_succ_eq_append_getElem h, List.map_append, List.sum_append, ← List.getElem_eq_getD (h := h)]
  simp
end Go.Proofs.YtiminahobifomaaDoor
