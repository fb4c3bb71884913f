/- Texts made of bytes: what make and the conversions between bytes and texts come to. -/
import Derived.Test.YtiminahobifomaaDoorTexts
import Derived.WalkSpells
import Derived.WalkLawsBesides
import Derived.Handy
import Derived.Lib.Hide
import Derived.Laws.BytesString
import Derived.Lib.ConvBytes
import Derived.Test.YtiminahobifomaaDoorBytes8
namespace Go.Proofs.YtiminahobifomaaDoor
open Go.ChangeShapes Go.WideShapes Go.ChangeAt Go.RowKit Go.Joins
set_option linter.unusedVariables false
set_option linter.unusedSimpArgs false

/-- A text of these numbers. -/
def strOf8 (ns : List Nat) : ByteArray := ⟨(ns.map UInt8.ofNat).toArray⟩
def cellsOf8 (ns : List Nat) : Array Value := (ns.map fun n : Nat => Value.int .u8 (n : Int)).toArray
theorem strOf8_size (ns : List Nat) : (strOf8 ns).size = ns.length := by simp [strOf8, ByteArray.size]

theorem push_fold (ns : List Int) : ∀ s : ByteArray, ns.foldl (fun r n => r.push (UInt8.ofNat n.toNat)) s = ⟨(s.data.toList ++ ns.map fun n => UInt8.ofNat n.toNat).toArray⟩ := by
  induction ns with
  | nil => intro s; cases s; simp
  | cons n ns ih =>
    intro s
    simp only [List.foldl_cons, ih]
    cases s
    simp [ByteArray.push]

theorem convert_bytes {P : Program} {w : World} {src dst e : TypeId} {b off cap : Nat} {ns : List Nat}
    (hs : P.underlying src = some (.slice e)) (he : P.underlying e = some (.int .u8)) (hd : P.underlying dst = some .string)
    (h : ∀ i, i < ns.length → w.cell? ⟨b, off + i, none⟩ = some (.int .u8 ((ns.getD i 0 : Nat) : Int))) :
    (convert src dst (.slice (some ⟨b, off, none⟩) ns.length cap)).run P w = .ok (.string (strOf8 ns)) w := by
  rw [run_convert_bytes_string w src dst e _ _ _ hs he hd]
  have hl : (loadCells ⟨b, off, none⟩ ns.length).run P w = .ok ((ns.map (fun n : Nat => (n : Int))).map (Value.int .u8)).toArray w := by
    have h1 : ns.length = ((ns.map (fun n : Nat => (n : Int))).map (Value.int .u8)).length := by simp
    rw [h1]
    refine run_loadCells_list (P := P) w ⟨b, off, none⟩ _ (fun j v hv => ?_)
    have hj : j < ns.length := by
      have := (List.getElem?_eq_some_iff.1 hv).1
      simpa using this
    rw [Go.WideShapes.add_plain, h j hj]
    simp only [List.map_map, List.getElem?_map, List.getElem?_eq_getElem hj, Option.map_some, Function.comp] at hv
    rw [← Option.some.inj hv, List.getD_eq_getElem?_getD, List.getElem?_eq_getElem hj]
    rfl
  rw [run_bytesToString w _ _ _ _ hl, push_fold]
  congr 3
  simp [strOf8, Function.comp_def]

theorem cells8_cell {w : World} {B : Nat} {ns : List Nat} {T : TypeId} {fr : Nat × Nat} (h : w.heap[B]? = some (.cells (cellsOf8 ns) T fr)) : ∀ i, i < ns.length → w.cell? ⟨B, 0 + i, none⟩ = some (.int .u8 ((ns.getD i 0 : Nat) : Int)) := by
  intro i hi
  rw [Nat.zero_add, cell_of_row w B i _ _ _ h]
  simp [cellsOf8, hi]

theorem hmk8 {n : Nat} (hn : n ≤ 100000) : ∀ w, (Instr.makeSlice 37 (.int .i64 (n : Int)) (.int .i64 (n : Int))).run Tryd.prog w = .ok (.slice (some ⟨w.heap.size, 0, none⟩) n n) (w.alloc (.cells (cellsOf8 (List.replicate n 0)) 5)) := by
  intro w
  have hi : ∃ i, Tryd.prog.info? 5 = some i ∧ i.zero = some (.int .u8 0) ∧ i.size = 1 ∧ i.bytes = 1 := by
    have h : (Tryd.prog.info? 5).map (fun i => (i.zero, i.size, i.bytes)) = some (some (.int .u8 0), 1, 1) := by kernel_rfl
    obtain ⟨i0, h1, h2, h3, h4⟩ := info_parts h
    exact ⟨i0, h1, h2, h3, h4⟩
  obtain ⟨i, h1, h2, h3, h4⟩ := hi
  have hr := run_make (P := Tryd.prog) w 37 5 i _ Tryd.underlying37 h1 h2 .i64 .i64 (n : Int) (n : Int) (by omega) (by omega) (by rw [h4]; omega) (by omega)
  rw [hr]
  have e : madeCells (Value.int .u8 0).cells ((n : Int).toNat * i.size) = cellsOf8 (List.replicate n 0) := by
    rw [h3, Int.toNat_natCast, Nat.mul_one]
    apply Array.ext
    · simp [madeCells, cellsOf8]
    · intro j h1 h2
      simp [madeCells, Value.cells, cellsOf8, Nat.mod_one]
  rw [e, Int.toNat_natCast]

/-- A block whose cells hold these bytes, and may be written. -/
def BytesBlk (w : World) (B : Nat) (ns : List Nat) : Prop := ∀ i, i < ns.length → ns.getD i 0 < 256 ∧ w.cell? ⟨B, i, none⟩ = some (.int .u8 ((ns.getD i 0 : Nat) : Int)) ∧ w.frozen? ⟨B, i, none⟩ = false
theorem BytesBlk.next {w : World} {B k v : Nat} {ns : List Nat} (h : BytesBlk w B ns) (hv : v < 256) : BytesBlk (w.setCell ⟨B, k, none⟩ (.int .u8 (v : Int))) B (ns.set k v) := by
  intro i hi
  rw [List.length_set] at hi
  obtain ⟨h1, h2, h3⟩ := h i hi
  by_cases e : k = i
  · subst e
    have hg : (ns.set k v).getD k 0 = v := by simp [List.getD, hi]
    rw [hg]
    exact ⟨hv, World.cell?_setCell_same' _ _ _ (by rw [h2]; rfl), by rw [World.frozen?_setCell]; exact h3⟩
  · have hg : (ns.set k v).getD i 0 = ns.getD i 0 := by simp [List.getD, List.getElem?_set, e]
    rw [hg]
    exact ⟨h1, by rw [World.cell?_setCell_other _ _ _ _ (by simp [e])]; exact h2, by rw [World.frozen?_setCell]; exact h3⟩
theorem BytesBlk.drew {w : World} {B : Nat} {ns : List Nat} (h : BytesBlk w B ns) : BytesBlk w.drew B ns := h
theorem BytesBlk.cells {w : World} {B : Nat} {ns : List Nat} (h : BytesBlk w B ns) : ∀ i, i < ns.length → w.cell? ⟨B, 0 + i, none⟩ = some (.int .u8 ((ns.getD i 0 : Nat) : Int)) := fun i hi => by
  rw [Nat.zero_add]; exact (h i hi).2.1
theorem bytesBlk_of (w : World) (e : TypeId) (s : ByteArray) : BytesBlk (Lib.bytesWorld w e s) w.heap.size (bytesOf s) := by
  intro i hi
  rw [bytesOf_length] at hi
  have hg : (bytesOf s).getD i 0 = (s.data.toList.getD i 0).toNat := by simp [bytesOf, List.getD, hi]
  refine ⟨by rw [hg]; exact UInt8.toNat_lt _, by rw [hg]; exact Lib.bytesWorld_cell w e s i hi, ?_⟩
  have h := Lib.bytesWorld_at_new w e s
  have hsz : i < (Lib.bytesCells w e s).size := by simp [Lib.bytesCells]; have : s.data.size = s.size := rfl; omega
  unfold World.frozen?
  rw [h]
  simp; omega
theorem bytesWorld_below (w : World) (e : TypeId) (s : ByteArray) : Below w.heap.size w (Lib.bytesWorld w e s) :=
  ⟨rfl, rfl, rfl, by rw [Lib.bytesWorld_size]; omega, fun k hk => Lib.bytesWorld_at_old w e s k hk⟩

theorem bytesOf_strOf8 {ns : List Nat} (h : ∀ n ∈ ns, n < 256) : bytesOf (strOf8 ns) = ns := by
  simp only [bytesOf, strOf8, List.toList_toArray, List.map_map]
  conv => rhs; rw [← List.map_id ns]
  apply List.map_congr_left
  intro a ha
  have := h a ha
  simp [UInt8.toNat_ofNat, Nat.mod_eq_of_lt this]
end Go.Proofs.YtiminahobifomaaDoor
