/- Lanes and joining, each as one contract; what comes in, with its room. -/
import Derived.Test.YtkfmkbmlhhdbpaaDoorLanF
import Derived.BigQuiet
namespace Go.Proofs.YtkfmkbmlhhdbpaaDoor
open Go.ChangeShapes Go.WideShapes Go.ChangeAt Go.RowKit Go.Joins
set_option linter.unusedVariables false
set_option linter.unusedSimpArgs false

def lanesOk (K m Z : Int) (t : ByteArray) : Bool := mayB (K, m, Z) && decide (0 < t.size ∧ t.size ≤ (K * Z).toNat)
def lanesE (K m Z : Int) (t : ByteArray) : Int := if lanesOk K m Z t then 0 else 1
def lanesW (K m Z : Int) (t : ByteArray) : List ByteArray := if lanesOk K m Z t then lanesB K.toNat Z.toNat t else []
theorem lanesW_le (K m Z : Int) (t : ByteArray) : (lanesW K m Z t).length ≤ 8 := by
  unfold lanesW lanesOk
  split
  · rename_i h
    rw [Bool.and_eq_true] at h
    obtain ⟨lg, hlg, hlg1, hlg2, k1, k8, m0, m6, z1, z120⟩ := lg_facts h.1
    rw [lanesB_len]; omega
  · simp
theorem capOk_nil : CapOk (.slice none 0 0) := by
  intro A n c h
  cases h; exact Nat.le_refl _
theorem cutLanes_any (K m Z : Int) (t : ByteArray) (w : World) :
    Calls Tryd.prog 8 #[.agg #[.int .i64 K, .int .i64 m, .int .i64 Z], .string t] w fun e w' => ∃ v, e = .returned (.tuple #[v, .int .i64 (lanesE K m Z t)]) ∧ StrsIn w' v (lanesW K m Z t) ∧ CapOk v ∧ Below w.heap.size w w' := by
  unfold lanesE lanesW
  cases h : lanesOk K m Z t
  · refine (cutLanes_no K m Z t w ?_).mono fun e w' ⟨he, hb⟩ => ⟨_, by rw [if_neg (by simp)]; exact he, by rw [if_neg (by simp)]; exact StrsIn.nil _ _ _, capOk_nil, hb⟩
    intro ⟨h1, h2, h3⟩
    unfold lanesOk at h
    rw [h1, decide_eq_true ⟨h2, h3⟩] at h
    simp at h
  · unfold lanesOk at h
    rw [Bool.and_eq_true] at h
    obtain ⟨h1, h2⟩ := h
    have h2 := of_decide_eq_true h2
    refine (cutLanes_yes K m Z t w h1 h2.1 h2.2).mono fun e w' ⟨v, he, hs, hc, hb⟩ => ⟨v, by rw [if_pos rfl]; exact he, by rw [if_pos rfl]; exact hs, hc, hb⟩

theorem flat_size : ∀ {L : List ByteArray} {z : Nat}, (∀ x ∈ L, x.size = z) → ((L.map (·.data.toList)).flatten).length = L.length * z := by
  intro L
  induction L with
  | nil => intro z _; simp
  | cons a L ih =>
    intro z h
    rw [List.map_cons, List.flatten_cons, List.length_append, str_len, h a (by simp), ih (fun x hx => h x (by simp [hx])), List.length_cons, Nat.add_mul, Nat.one_mul]
    omega
theorem join_size {L : List ByteArray} {z : Nat} (h : ∀ x ∈ L, x.size = z) : (joinB L).size = L.length * z := by
  unfold joinB
  rw [strL_size, flat_size h]

def joinOk (K m Z : Int) (L : List ByteArray) (n : Int) : Bool := mayB (K, m, Z) && (textsOk L K Z && decide (1 ≤ n ∧ n ≤ K * Z))
def joinX (K m Z : Int) (L : List ByteArray) (n : Int) : ByteArray := if joinOk K m Z L n then joinS (joinB L) n.toNat else ⟨#[]⟩
def joinF (K m Z : Int) (L : List ByteArray) (n : Int) : Int := if joinOk K m Z L n then joinE (joinB L) n.toNat else 1
theorem joinOk_facts {K m Z : Int} {L : List ByteArray} {n : Int} (h : joinOk K m Z L n = true) : mayB (K, m, Z) = true ∧ L.length = K.toNat ∧ (∀ x ∈ L, x.size = Z.toNat) ∧ (joinB L).size = (K * Z).toNat ∧ 1 ≤ n ∧ n ≤ K * Z ∧ L.length ≤ 8 ∧ (joinB L).size ≤ 960 := by
  unfold joinOk at h
  rw [Bool.and_eq_true, Bool.and_eq_true] at h
  obtain ⟨h1, h2, h3⟩ := h
  have h3 := of_decide_eq_true h3
  obtain ⟨lg, hlg, hlg1, hlg2, k1, k8, m0, m6, z1, z120⟩ := lg_facts h1
  unfold textsOk at h2
  rw [Bool.and_eq_true] at h2
  have e1 := of_decide_eq_true h2.1
  have e2 : ∀ x ∈ L, x.size = Z.toNat := by
    intro x hx
    have := of_decide_eq_true (List.all_eq_true.1 h2.2 x hx)
    omega
  have e3 : (joinB L).size = (K * Z).toNat := by
    rw [join_size e2]
    have : ((L.length * Z.toNat : Nat) : Int) = K * Z := by
      push_cast
      rw [e1, Int.toNat_of_nonneg (by omega)]
    omega
  exact ⟨h1, by omega, e2, e3, h3.1, h3.2, by omega, by rw [e3, hlg]; omega⟩
theorem cutJoin_any (K m Z n : Int) (v : Value) (L : List ByteArray) (w : World) (hv : StrsIn w v L) (hcap : CapOk v) (hl : L.length ≤ 9000000000000000000) :
    Calls Tryd.prog 14 #[.agg #[.int .i64 K, .int .i64 m, .int .i64 Z], v, .int .i64 n] w fun e w' => e = .returned (.tuple #[.string (joinX K m Z L n), .int .i64 (joinF K m Z L n)]) ∧ Below w.heap.size w w' := by
  unfold joinX joinF
  cases h : joinOk K m Z L n
  · refine (cutJoin_no K m Z n v L w hv hcap hl ?_).mono fun e w' ⟨he, hb⟩ => ⟨by rw [if_neg (by simp), if_neg (by simp)]; exact he, hb⟩
    intro ⟨h1, h2, h3⟩
    unfold joinOk at h
    rw [h1, h2, decide_eq_true h3] at h
    simp at h
  · obtain ⟨h1, h2, h3, h4, h5, h6, _, _⟩ := joinOk_facts h
    obtain ⟨k, rfl⟩ : ∃ k : Nat, n = (k : Int) := ⟨n.toNat, by omega⟩
    refine (cutJoin_yes K m Z v L k w h1 hv hcap h2 h3 h4 (by omega) (by omega)).mono fun e w' ⟨he, hb⟩ => ⟨?_, hb⟩
    rw [he, if_pos rfl, if_pos rfl, Int.toNat_natCast]

theorem capOk_open {H : Type} {enc : TypeId × Value → H} {W : World} {base fuel : Nat} {spare : Nat → Bool} {held : Bool} {c1 : Value} {y1 : DataW H × List MemPlace} (h1 : DataW.trod enc Tryd.prog W base spare held fuel 23 [c1] = some y1) : CapOk c1 := by
  rcases open_strings Tryd.underlying23 Tryd.underlying9 cellsStr h1 with ⟨hcs, _⟩ | ⟨a, len, cap, ss, hcs, _, hl, _⟩
  · simp only [List.cons.injEq, and_true] at hcs
    rw [hcs]; exact capOk_nil
  · simp only [List.cons.injEq, and_true] at hcs
    rw [hcs]
    intro A n c h
    cases h; exact hl
theorem ask7_openC {H : Type} {enc : TypeId × Value → H} {W : World} {b0 base : Nat} {r : Reach} {spare : Nat → Bool} {held : Bool} {v : Value} {d : DataW H} {p : List MemPlace}
    (hv : Value.okWide Tryd.prog W r b0 28 v) (h : DataW.Trod enc Tryd.prog W base spare held 28 v d p) (hf : Fits Tryd.prog 28 d) :
    ∃ cS cL cB N, v = .agg #[cS, cL, cB, .int .i64 N] ∧ CapOk cL ∧ ∃ S L Bs, Ask7 W cS cL cB N S L Bs := by
  obtain ⟨cS, cL, cB, N, rfl, S, L, Bs, q⟩ := ask7_open hv h hf
  obtain ⟨fuel, h⟩ := h
  obtain ⟨n0, y0, h0, f0⟩ := open_field Tryd.underlying28 h hf 0 rfl [cS, cL, cB] cellsAsk4 rfl
  obtain ⟨n1, y1, h1, f1⟩ := open_field Tryd.underlying26 h0 f0 1 rfl [cL] cellsStrs rfl
  exact ⟨_, _, _, N, rfl, capOk_open h1, S, L, Bs, q⟩

theorem litOwn (w : World) (cs : Array Value) (T : TypeId) (n : Nat) (h : cs.size = n) (hn : n ≤ 1000000) : (w.alloc (.cells cs T)).ownsRow w.heap.size T 1 (.slice (some ⟨w.heap.size, 0, none⟩) n n) n cs.toList := by
  refine ⟨by simp [h], Or.inr ⟨w.heap.size, n, cs, rfl, Nat.le_refl _, heap_alloc_new w _, Nat.le_refl _, by unfold maxLen; omega, by simp [h], ?_⟩⟩
  rw [List.take_of_length_le (by simp [h])]

/-- A slice of lists of texts, whose rooms are told. -/
def ListsIn (w : World) (v : Value) (n : Nat) : Prop := ∃ vs : List Value, vs.length = n ∧ RowIs w v n 1 vs ∧ ∀ u ∈ vs, ∃ M, StrsIn w u M ∧ CapOk u ∧ M.length ≤ 9000000000000000000
theorem ListsIn.below {w w' : World} {v : Value} {n : Nat} (h : ListsIn w v n) (hb : Below w.heap.size w w') : ListsIn w' v n := by
  obtain ⟨vs, h1, h2, h3⟩ := h
  refine ⟨vs, h1, h2.below hb, fun u hu => ?_⟩
  obtain ⟨M, q1, q2, q3⟩ := h3 u hu
  exact ⟨M, q1.below hb, q2, q3⟩
theorem ListsIn.len {w : World} {v : Value} {n : Nat} (h : ListsIn w v n) : ∃ A c, v = .slice A n c := by
  obtain ⟨_, _, ⟨_, A, c, rfl, _⟩, _⟩ := h
  exact ⟨A, c, rfl⟩
theorem ListsIn.at_ {w : World} {v : Value} {n k : Nat} (h : ListsIn w v n) (hk : k < n) : ∃ b o c A m c', v = .slice (some ⟨b, o, none⟩) n c ∧ w.cell? ⟨b, o + k, none⟩ = some (.slice A m c') ∧ ∃ M : List ByteArray, M.length = m ∧ StrsIn w (.slice A M.length c') M ∧ CapOk (.slice A M.length c') ∧ M.length ≤ 9000000000000000000 := by
  obtain ⟨vs, h1, h2, h3⟩ := h
  obtain ⟨b, o, c, rfl, hlt, hc⟩ := RowIs.at_ h2 hk
  obtain ⟨u, hu, hcu⟩ := hc 0 (by omega)
  rw [Nat.mul_one, Nat.add_zero] at hcu hu
  obtain ⟨M, q1, q2, q3⟩ := h3 u (List.mem_of_getElem? hu)
  obtain ⟨A, c', rfl⟩ := q1.len
  exact ⟨b, o, c, A, M.length, c', rfl, hcu, M, rfl, q1, q2, q3⟩
end Go.Proofs.YtkfmkbmlhhdbpaaDoor
