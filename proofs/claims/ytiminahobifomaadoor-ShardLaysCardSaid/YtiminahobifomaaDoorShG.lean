/- Shards plainly: how they are laid, what sectors are taken as. -/
import Derived.Test.YtiminahobifomaaDoorShA
namespace Go.Proofs.YtiminahobifomaaDoor
set_option linter.unusedVariables false
set_option linter.unusedSimpArgs false

theorem strOf8_app (a b : List Nat) : strOf8 (a ++ b) = strOf8 a ++ strOf8 b := by
  apply ByteArray.ext
  simp [strOf8, ByteArray.data_append]
theorem bytesOf_app (a b : ByteArray) : bytesOf (a ++ b) = bytesOf a ++ bytesOf b := by
  simp [bytesOf, ByteArray.data_append]
theorem strOf8_of (s : ByteArray) : strOf8 (bytesOf s) = s := by
  apply ByteArray.ext
  apply Array.ext'
  simp [strOf8, bytesOf, List.map_map, Function.comp_def, UInt8.ofNat_toNat]
theorem strOf8_part (ns : List Nat) (a b : Nat) : (strOf8 ns).extract a b = strOf8 ((ns.drop a).take (b - a)) := by
  apply ByteArray.ext
  apply Array.ext'
  simp [strOf8, ByteArray.data_extract, List.map_drop, List.map_take]
theorem bytesOf_part (s : ByteArray) (a b : Nat) : bytesOf (s.extract a b) = ((bytesOf s).drop a).take (b - a) := by
  simp [bytesOf, ByteArray.data_extract, List.map_drop, List.map_take]
theorem bytesOf_inj {a b : ByteArray} (h : bytesOf a = bytesOf b) : a = b := by rw [← strOf8_of a, h, strOf8_of]

theorem beL_snoc (size n : Nat) : beL (size + 1) n = beL size (n / 256) ++ [n % 256] := by
  unfold beL
  rw [List.range_succ, List.map_append]
  congr 1
  · apply List.map_congr_left
    intro j hj
    have hj := List.mem_range.1 hj
    rw [Nat.div_div_eq_div_mul, show size + 1 - 1 - j = (size - 1 - j) + 1 by omega, Nat.mul_add, Nat.pow_add, Nat.mul_comm (2 ^ (8 * (size - 1 - j)))]
  · simp
theorem numB_beL : ∀ (size n : Nat), n < 256 ^ size → numB (beL size n) = n
  | 0, n, h => by simp at h; subst h; rfl
  | size + 1, n, h => by
    rw [beL_snoc, numB_snoc, numB_beL size (n / 256) (by rw [Nat.pow_succ] at h; omega)]
    omega

/-- A shard. -/
structure Sh where
  st : Nat
  ix : Nat
  g : Nat
  t : ByteArray
theorem Sh.ext' {a b : Sh} (h1 : a.st = b.st) (h2 : a.ix = b.ix) (h3 : a.g = b.g) (h4 : a.t = b.t) : a = b := by
  cases a; cases b; simp at *; exact ⟨h1, h2, h3, h4⟩
def Sh.may (s : Sh) : Bool := shardB s.st s.ix s.g s.t
theorem Sh.facts {s : Sh} (h : s.may = true) : s.st ≤ 1073741824 ∧ s.g ≤ 1073741824 ∧ s.ix < 14 ∧ 1 ≤ s.t.size ∧ s.t.size ≤ 120 := by
  have := of_decide_eq_true h
  omega
def headL (st ix g n : Nat) : List Nat := [83, 72, 82, 68] ++ beL 4 st ++ beL 4 g ++ beL 1 ix ++ beL 2 n
theorem headL_len (st ix g n : Nat) : (headL st ix g n).length = 15 := by simp [headL, beL_len]
theorem headL_lt (st ix g n : Nat) : ∀ b ∈ headL st ix g n, b < 256 := by
  intro b hb
  simp only [headL, List.mem_append] at hb
  rcases hb with (((h | h) | h) | h) | h
  · simp at h; omega
  · exact beL_lt _ _ b h
  · exact beL_lt _ _ b h
  · exact beL_lt _ _ b h
  · exact beL_lt _ _ b h
def bodyL (s : Sh) : List Nat := headL s.st s.ix s.g s.t.size ++ bytesOf s.t
theorem bodyL_len (s : Sh) : (bodyL s).length = 15 + s.t.size := by simp [bodyL, headL_len, bytesOf_length]
theorem bodyL_lt (s : Sh) : ∀ b ∈ bodyL s, b < 256 := by
  intro b hb
  rcases List.mem_append.1 hb with h | h
  · exact headL_lt _ _ _ _ b h
  · exact bytesOf_lt _ b h
def sumL (l : List Nat) : List Nat := beL 8 (Crc.more 0 l)
theorem sumL_len (l : List Nat) : (sumL l).length = 8 := beL_len _ _
/-- What stands behind a body of so many bytes of text. -/
def withSum (n : Nat) (b : List Nat) : List Nat := b ++ sumL b ++ List.replicate (64 * secN n - (23 + n)) 0
def fullL (s : Sh) : List Nat := withSum s.t.size (bodyL s)
theorem secN_fit (n : Nat) : 23 + n ≤ 64 * secN n := by unfold secN; omega
theorem secN_small {n : Nat} (h : n ≤ 120) : secN n ≤ 3 := by unfold secN; omega
theorem secN_pos (n : Nat) : 1 ≤ secN n := by unfold secN; omega
theorem fullL_len (s : Sh) : (fullL s).length = 64 * secN s.t.size := by
  have := secN_fit s.t.size
  simp only [fullL, withSum, List.length_append, bodyL_len, sumL_len, List.length_replicate]
  omega
theorem fullL_lt (s : Sh) : ∀ b ∈ fullL s, b < 256 := by
  intro b hb
  simp only [fullL, withSum, List.mem_append] at hb
  rcases hb with (h | h) | h
  · exact bodyL_lt _ b h
  · exact beL_lt _ _ b h
  · rw [List.eq_of_mem_replicate h]; decide
def chunksL (m : Nat) (c : List Nat) : List ByteArray := (List.range m).map fun i => strOf8 ((c.drop (64 * i)).take 64)
def layS (s : Sh) : List ByteArray := chunksL (secN s.t.size) (fullL s)
theorem layS_len (s : Sh) : (layS s).length = secN s.t.size := by simp [layS, chunksL]
/-- All bytes of texts. -/
def joinB (l : List ByteArray) : List Nat := (l.map bytesOf).flatten
theorem joinB_nil : joinB [] = [] := rfl
theorem joinB_snoc (l : List ByteArray) (s : ByteArray) : joinB (l ++ [s]) = joinB l ++ bytesOf s := by simp [joinB]
theorem joinB_cons (l : List ByteArray) (s : ByteArray) : joinB (s :: l) = bytesOf s ++ joinB l := by simp [joinB]
theorem joinB_app (l m : List ByteArray) : joinB (l ++ m) = joinB l ++ joinB m := by simp [joinB]
theorem joinB_lt (l : List ByteArray) : ∀ b ∈ joinB l, b < 256 := by
  intro b hb
  obtain ⟨x, hx, hb⟩ := List.mem_flatten.1 hb
  obtain ⟨s, _, rfl⟩ := List.mem_map.1 hx
  exact bytesOf_lt s b hb
theorem joinB_len {l : List ByteArray} (h : ∀ s ∈ l, s.size = 64) : (joinB l).length = 64 * l.length := by
  induction l with
  | nil => rfl
  | cons s l ih =>
    rw [joinB_cons, List.length_append, bytesOf_length, h s (List.mem_cons_self ..), ih (fun x hx => h x (List.mem_cons_of_mem _ hx)), List.length_cons]
    omega
theorem join_chunks {c : List Nat} (h : ∀ b ∈ c, b < 256) : ∀ m, joinB (chunksL m c) = c.take (64 * m)
  | 0 => rfl
  | m + 1 => by
    have e : chunksL (m + 1) c = chunksL m c ++ [strOf8 ((c.drop (64 * m)).take 64)] := by simp [chunksL, List.range_succ]
    rw [e, joinB_snoc, join_chunks h m, bytesOf_strOf8 (fun b hb => h b (List.mem_of_mem_drop (List.mem_of_mem_take hb))), show 64 * (m + 1) = 64 * m + 64 by omega, List.take_add]
theorem chunks_size {m : Nat} {c : List Nat} (h : c.length = 64 * m) : ∀ s ∈ chunksL m c, s.size = 64 := by
  intro s hs
  obtain ⟨i, hi, rfl⟩ := List.mem_map.1 hs
  have hi := List.mem_range.1 hi
  rw [strOf8_size, List.length_take, List.length_drop, h]
  omega
theorem join_lay (s : Sh) : joinB (layS s) = fullL s := by
  rw [layS, join_chunks (fullL_lt s), List.take_of_length_le (by rw [fullL_len]; exact Nat.le_refl _)]
theorem lay_size (s : Sh) : ∀ x ∈ layS s, x.size = 64 := chunks_size (fullL_len s)

/-- The number of so many bytes, from one on. -/
def numAt (c : List Nat) (o n : Nat) : Nat := numB ((c.drop o).take n)
/-- What a shard's bytes tell. -/
def parseC (c : List Nat) : Sh := ⟨numAt c 4 4, numAt c 12 1, numAt c 8 4, strOf8 ((c.drop 15).take (numAt c 13 2))⟩
def parseS (l : List ByteArray) : Sh := parseC (joinB l)
theorem part_at {a b c : List Nat} {o n : Nat} (ha : a.length = o) (hb : b.length = n) : ((a ++ (b ++ c)).drop o).take n = b := by
  rw [List.drop_append_of_le_length (by omega), List.drop_of_length_le (by omega), List.nil_append, List.take_append_of_le_length (by omega), List.take_of_length_le (by omega)]
theorem head_parts (st ix g n : Nat) (z : List Nat) : ((headL st ix g n ++ z).drop 4).take 4 = beL 4 st ∧ ((headL st ix g n ++ z).drop 8).take 4 = beL 4 g ∧ ((headL st ix g n ++ z).drop 12).take 1 = beL 1 ix ∧ ((headL st ix g n ++ z).drop 13).take 2 = beL 2 n ∧ (headL st ix g n ++ z).drop 15 = z ∧ (headL st ix g n ++ z).take 4 = [83, 72, 82, 68] := by
  refine ⟨?_, ?_, ?_, ?_, ?_, ?_⟩
  · have e : headL st ix g n ++ z = [83, 72, 82, 68] ++ (beL 4 st ++ (beL 4 g ++ beL 1 ix ++ beL 2 n ++ z)) := by simp [headL]
    rw [e]; exact part_at rfl (beL_len _ _)
  · have e : headL st ix g n ++ z = ([83, 72, 82, 68] ++ beL 4 st) ++ (beL 4 g ++ (beL 1 ix ++ beL 2 n ++ z)) := by simp [headL]
    rw [e]; exact part_at (by simp [beL_len]) (beL_len _ _)
  · have e : headL st ix g n ++ z = ([83, 72, 82, 68] ++ beL 4 st ++ beL 4 g) ++ (beL 1 ix ++ (beL 2 n ++ z)) := by simp [headL]
    rw [e]; exact part_at (by simp [beL_len]) (beL_len _ _)
  · have e : headL st ix g n ++ z = ([83, 72, 82, 68] ++ beL 4 st ++ beL 4 g ++ beL 1 ix) ++ (beL 2 n ++ z) := by simp [headL]
    rw [e]; exact part_at (by simp [beL_len]) (beL_len _ _)
  · rw [List.drop_append_of_le_length (by rw [headL_len]; omega), List.drop_of_length_le (by rw [headL_len]; omega), List.nil_append]
  · simp [headL]
theorem full_head (s : Sh) : fullL s = headL s.st s.ix s.g s.t.size ++ (bytesOf s.t ++ (sumL (bodyL s) ++ List.replicate (64 * secN s.t.size - (23 + s.t.size)) 0)) := by
  simp [fullL, withSum, bodyL]
theorem full_num {s : Sh} (h : s.t.size < 65536) : numAt (fullL s) 13 2 = s.t.size := by
  obtain ⟨_, _, _, h4, _, _⟩ := head_parts s.st s.ix s.g s.t.size (bytesOf s.t ++ (sumL (bodyL s) ++ List.replicate (64 * secN s.t.size - (23 + s.t.size)) 0))
  rw [numAt, full_head, h4, numB_beL 2 _ (by omega)]
theorem parse_lay {s : Sh} (h : s.may = true) : parseC (fullL s) = s := by
  obtain ⟨f1, f2, f3, f4, f5⟩ := Sh.facts h
  obtain ⟨h1, h2, h3, h4, h5, _⟩ := head_parts s.st s.ix s.g s.t.size (bytesOf s.t ++ (sumL (bodyL s) ++ List.replicate (64 * secN s.t.size - (23 + s.t.size)) 0))
  have hn := full_num (s := s) (by omega)
  refine Sh.ext' ?_ ?_ ?_ ?_
  · show numAt (fullL s) 4 4 = _
    rw [numAt, full_head, h1, numB_beL 4 _ (by omega)]
  · show numAt (fullL s) 12 1 = _
    rw [numAt, full_head, h3, numB_beL 1 _ (by omega)]
  · show numAt (fullL s) 8 4 = _
    rw [numAt, full_head, h2, numB_beL 4 _ (by omega)]
  · show strOf8 (((fullL s).drop 15).take (numAt (fullL s) 13 2)) = _
    rw [hn, full_head, h5, List.take_append_of_le_length (by rw [bytesOf_length]; exact Nat.le_refl _), List.take_of_length_le (by rw [bytesOf_length]; exact Nat.le_refl _), strOf8_of]

/-- The shard that sectors are. -/
def takeO (l : List ByteArray) : Option Sh := if (parseS l).may = true ∧ layS (parseS l) = l then some (parseS l) else none
theorem takeO_some {l : List ByteArray} {s : Sh} (h : takeO l = some s) : s = parseS l ∧ s.may = true ∧ layS s = l := by
  unfold takeO at h
  split at h
  · rename_i hc
    injection h with h
    subst h
    exact ⟨rfl, hc.1, hc.2⟩
  · cases h
theorem takeO_lay {s : Sh} (h : s.may = true) : takeO (layS s) = some s := by
  have hp : parseS (layS s) = s := by rw [parseS, join_lay, parse_lay h]
  rw [takeO, hp, if_pos ⟨h, rfl⟩]
theorem takeO_none {l : List ByteArray} (h : ∀ s, s.may = true → layS s = l → False) : takeO l = none := by
  cases e : takeO l with
  | none => rfl
  | some s => exact (h s (takeO_some e).2.1 (takeO_some e).2.2).elim
theorem none_len {l : List ByteArray} (h : l.length = 0 ∨ 3 < l.length) : takeO l = none := takeO_none fun s hm hl => by
  obtain ⟨f1, f2, f3, f4, f5⟩ := Sh.facts hm
  have h1 := secN_pos s.t.size
  have h2 := secN_small f5
  rw [← layS_len s, ] at h1 h2
  rw [hl] at h1 h2
  omega
theorem none_size {l : List ByteArray} {x : ByteArray} (hx : x ∈ l) (h : x.size ≠ 64) : takeO l = none := takeO_none fun s hm hl => by
  rw [← hl] at hx
  exact h (lay_size s x hx)
theorem none_name {l : List ByteArray} (h : (joinB l).take 4 ≠ [83, 72, 82, 68]) : takeO l = none := takeO_none fun s hm hl => by
  rw [← hl, join_lay, full_head] at h
  exact h (head_parts ..).2.2.2.2.2
theorem none_num {l : List ByteArray} (h : 120 < numAt (joinB l) 13 2 ∨ secN (numAt (joinB l) 13 2) ≠ l.length) : takeO l = none := takeO_none fun s hm hl => by
  obtain ⟨f1, f2, f3, f4, f5⟩ := Sh.facts hm
  rw [← hl, join_lay, full_num (by omega), layS_len] at h
  rcases h with h | h
  · omega
  · exact h rfl
theorem none_short {l : List ByteArray} (h : (joinB l).length < 23 + numAt (joinB l) 13 2) : takeO l = none := takeO_none fun s hm hl => by
  obtain ⟨f1, f2, f3, f4, f5⟩ := Sh.facts hm
  rw [← hl, join_lay, full_num (by omega), fullL_len] at h
  have := secN_fit s.t.size
  omega
theorem none_may {l : List ByteArray} (h : (parseS l).may = false) : takeO l = none := by
  rw [takeO, if_neg (by rw [h]; simp)]
theorem none_lay {l : List ByteArray} (h : layS (parseS l) ≠ l) : takeO l = none := by
  rw [takeO, if_neg (fun hc => h hc.2)]
theorem some_of {l : List ByteArray} (h1 : (parseS l).may = true) (h2 : layS (parseS l) = l) : takeO l = some (parseS l) := by
  rw [takeO, if_pos ⟨h1, h2⟩]

/-- Are all bytes 0? -/
def blankB (l : List ByteArray) : Bool := (joinB l).all (· == 0)
def classV (l : List ByteArray) (st g ix : Int) : Int :=
  if blankB l = true then 0 else
  match takeO l with
  | some s => if (s.st : Int) = st ∧ (s.g : Int) = g ∧ (s.ix : Int) = ix then 2 else 1
  | none => 1
theorem lay_not_blank (s : Sh) : blankB (layS s) = false := by
  rw [blankB, join_lay, full_head]
  simp [headL]
theorem class_lay {s : Sh} (h : s.may = true) : classV (layS s) s.st s.g s.ix = 2 := by
  rw [classV, lay_not_blank, takeO_lay h]
  simp
theorem class_some {l : List ByteArray} {s : Sh} (h : takeO l = some s) (st g ix : Int) : classV l st g ix = if (s.st : Int) = st ∧ (s.g : Int) = g ∧ (s.ix : Int) = ix then 2 else 1 := by
  have hb : blankB l = false := by rw [← (takeO_some h).2.2]; exact lay_not_blank s
  rw [classV, hb, h]
  simp
theorem class_none {l : List ByteArray} (h : takeO l = none) (st g ix : Int) : classV l st g ix = if blankB l = true then 0 else 1 := by
  rw [classV, h]

/-- A bit of one of the texts turned. -/
def turnB (s : ByteArray) (p i : Nat) : ByteArray := strOf8 ((bytesOf s).set p ((bytesOf s).getD p 0 ^^^ 2 ^ i))
def turnK (l : List ByteArray) (k : Nat) : List ByteArray := l.set (k / 8 / 64) (turnB (l.getD (k / 8 / 64) ByteArray.empty) (k / 8 % 64) (k % 8))
theorem turn_lt {b i : Nat} (hb : b < 256) (hi : i < 8) : b ^^^ 2 ^ i < 256 := Nat.xor_lt_two_pow (n := 8) hb (by
  exact Nat.pow_lt_pow_right (by omega) hi)
theorem turn_ne (b i : Nat) : b ^^^ 2 ^ i ≠ b := by
  intro h
  have h1 : (b ^^^ 2 ^ i) ^^^ b = 0 := by rw [h, Nat.xor_self]
  rw [Nat.xor_comm, ← Nat.xor_assoc, Nat.xor_self, Nat.zero_xor] at h1
  have := Nat.two_pow_pos i
  omega
theorem bytesOf_turn {s : ByteArray} {p i : Nat} (hi : i < 8) : bytesOf (turnB s p i) = (bytesOf s).set p ((bytesOf s).getD p 0 ^^^ 2 ^ i) := by
  rw [turnB, bytesOf_strOf8]
  intro b hb
  rcases List.mem_or_eq_of_mem_set hb with h | h
  · exact bytesOf_lt s b h
  · rw [h]
    refine turn_lt ?_ hi
    rw [List.getD_eq_getElem?_getD]
    cases hg : (bytesOf s)[p]? with
    | none => simp
    | some v => exact bytesOf_lt s v (List.mem_of_getElem? hg)
theorem joinB_set : ∀ (l : List ByteArray) (a p v : Nat) (x : ByteArray), (∀ s ∈ l, s.size = 64) → a < l.length → p < 64 → bytesOf x = (bytesOf (l.getD a ByteArray.empty)).set p v → joinB (l.set a x) = (joinB l).set (64 * a + p) v
  | [], a, _, _, _, _, ha, _, _ => by simp at ha
  | s :: l, 0, p, v, x, hs, _, hp, hx => by
    rw [List.set_cons_zero, joinB_cons, joinB_cons, hx, Nat.mul_zero, Nat.zero_add, List.getD_cons_zero, List.set_append_left _ _ (by rw [bytesOf_length, hs s (List.mem_cons_self ..)]; exact hp)]
  | s :: l, a + 1, p, v, x, hs, ha, hp, hx => by
    have h64 := hs s (List.mem_cons_self ..)
    rw [List.set_cons_succ, joinB_cons, joinB_cons, joinB_set l a p v x (fun y hy => hs y (List.mem_cons_of_mem _ hy)) (by simpa using ha) hp (by simpa using hx), List.set_append_right _ _ (by rw [bytesOf_length, h64]; omega), bytesOf_length, h64, show 64 * (a + 1) + p - 64 = 64 * a + p by omega]
theorem joinB_get : ∀ (l : List ByteArray) (a p : Nat), (∀ s ∈ l, s.size = 64) → a < l.length → p < 64 → (joinB l).getD (64 * a + p) 0 = (bytesOf (l.getD a ByteArray.empty)).getD p 0
  | [], a, _, _, ha, _ => by simp at ha
  | s :: l, 0, p, hs, _, hp => by
    simp only [Nat.mul_zero, Nat.zero_add, List.getD_cons_zero, joinB_cons, List.getD_eq_getElem?_getD]
    rw [List.getElem?_append_left (by rw [bytesOf_length, hs s (List.mem_cons_self ..)]; exact hp)]
    rfl
  | s :: l, a + 1, p, hs, ha, hp => by
    have h64 := hs s (List.mem_cons_self ..)
    have ih := joinB_get l a p (fun y hy => hs y (List.mem_cons_of_mem _ hy)) (by simpa using ha) hp
    simp only [List.getD_cons_succ, joinB_cons, List.getD_eq_getElem?_getD] at ih ⊢
    rw [List.getElem?_append_right (by rw [bytesOf_length, h64]; omega), bytesOf_length, h64, show 64 * (a + 1) + p - 64 = 64 * a + p by omega]
    first | exact ih | simpa using ih
theorem join_turn {l : List ByteArray} {k : Nat} (hs : ∀ s ∈ l, s.size = 64) (hk : k < 64 * 8 * l.length) : joinB (turnK l k) = (joinB l).set (k / 8) ((joinB l).getD (k / 8) 0 ^^^ 2 ^ (k % 8)) := by
  have hg := joinB_get l (k / 8 / 64) (k / 8 % 64) hs (by omega) (by omega)
  have h := joinB_set l (k / 8 / 64) (k / 8 % 64) ((bytesOf (l.getD (k / 8 / 64) ByteArray.empty)).getD (k / 8 % 64) 0 ^^^ 2 ^ (k % 8)) (turnB (l.getD (k / 8 / 64) ByteArray.empty) (k / 8 % 64) (k % 8)) hs (by omega) (by omega) (bytesOf_turn (by omega))
  rw [turnK, h, ← hg, show 64 * (k / 8 / 64) + k / 8 % 64 = k / 8 by omega]
theorem set_parts {c : List Nat} {p v : Nat} (hp : p < c.length) : c.set p v = c.take p ++ [v] ++ c.drop (p + 1) := by
  rw [List.set_eq_take_append_cons_drop, if_pos hp]; simp
theorem own_parts {c : List Nat} {p : Nat} (hp : p < c.length) : c = c.take p ++ [c.getD p 0] ++ c.drop (p + 1) := by
  rw [List.getD_eq_getElem?_getD, List.getElem?_eq_getElem hp]
  simp
theorem drop_set_of_ge {c : List Nat} {p v o : Nat} (h : p < o) : (c.set p v).drop o = c.drop o := by
  rw [List.drop_set]; simp [h]
/-- With one bit turned, but of the length, there is no shard. -/
theorem turned_none {s : Sh} (h : s.may = true) {p v : Nat} (hp : p < (fullL s).length) (h13 : p ≠ 13) (h14 : p ≠ 14) (hv : v < 256) (hne : v ≠ (fullL s).getD p 0) {s' : Sh} (h' : s'.may = true) (he : fullL s' = (fullL s).set p v) : False := by
  obtain ⟨f1, f2, f3, f4, f5⟩ := Sh.facts h
  obtain ⟨g1, g2, g3, g4, g5⟩ := Sh.facts h'
  have hn : s'.t.size = s.t.size := by
    rw [← full_num (s := s') (by omega), ← full_num (s := s) (by omega), he]
    unfold numAt
    congr 1
    apply List.ext_getElem?
    intro i
    by_cases hi : i < 2
    · rw [List.getElem?_take_of_lt hi, List.getElem?_take_of_lt hi, List.getElem?_drop, List.getElem?_drop, List.getElem?_set_ne (by omega)]
    · rw [List.getElem?_eq_none (by rw [List.length_take]; omega), List.getElem?_eq_none (by rw [List.length_take]; omega)]
  have hb : bodyL s' = ((fullL s).set p v).take (15 + s.t.size) := by
    rw [← he, fullL, withSum, hn, List.append_assoc, List.take_append_of_le_length (by rw [bodyL_len, hn]; exact Nat.le_refl _), List.take_of_length_le (by rw [bodyL_len, hn]; exact Nat.le_refl _)]
  have hbs : bodyL s = (fullL s).take (15 + s.t.size) := by
    rw [fullL, withSum, List.append_assoc, List.take_append_of_le_length (by rw [bodyL_len]; exact Nat.le_refl _), List.take_of_length_le (by rw [bodyL_len]; exact Nat.le_refl _)]
  by_cases hpb : p < 15 + s.t.size
  · have hb2 : bodyL s' = (bodyL s).set p v := by rw [hb, hbs, List.take_set]
    have hrest : (fullL s').drop (15 + s.t.size) = (fullL s).drop (15 + s.t.size) := by rw [he, drop_set_of_ge hpb]
    have hr1 : (fullL s').drop (15 + s.t.size) = sumL (bodyL s') ++ List.replicate (64 * secN s.t.size - (23 + s.t.size)) 0 := by
      rw [fullL, withSum, hn, List.append_assoc, List.drop_append_of_le_length (by rw [bodyL_len, hn]; exact Nat.le_refl _), List.drop_of_length_le (by rw [bodyL_len, hn]; exact Nat.le_refl _), List.nil_append]
    have hr2 : (fullL s).drop (15 + s.t.size) = sumL (bodyL s) ++ List.replicate (64 * secN s.t.size - (23 + s.t.size)) 0 := by
      rw [fullL, withSum, List.append_assoc, List.drop_append_of_le_length (by rw [bodyL_len]; exact Nat.le_refl _), List.drop_of_length_le (by rw [bodyL_len]; exact Nat.le_refl _), List.nil_append]
    rw [hr1, hr2] at hrest
    have hsum : sumL (bodyL s') = sumL (bodyL s) := List.append_inj_left hrest (by rw [sumL_len, sumL_len])
    have hm1 := Crc.more_lt (l := bodyL s') (c := 0) (by decide) (bodyL_lt s')
    have hm2 := Crc.more_lt (l := bodyL s) (c := 0) (by decide) (bodyL_lt s)
    have hcrc : Crc.more 0 (bodyL s') = Crc.more 0 (bodyL s) := by
      rw [← numB_beL 8 (Crc.more 0 (bodyL s')) (by omega), ← numB_beL 8 (Crc.more 0 (bodyL s)) (by omega)]
      exact congrArg numB hsum
    have hpl : p < (bodyL s).length := by rw [bodyL_len]; exact hpb
    rw [hb2, set_parts hpl] at hcrc
    have e2 := own_parts hpl
    rw [e2] at hcrc
    have hc2 : Crc.more 0 ((bodyL s).take p ++ [v] ++ (bodyL s).drop (p + 1)) = Crc.more 0 ((bodyL s).take p ++ [(bodyL s).getD p 0] ++ (bodyL s).drop (p + 1)) := by
      rw [← e2]
      rw [← e2] at hcrc
      exact hcrc
    have hgl : (bodyL s).getD p 0 < 256 := by
      rw [List.getD_eq_getElem?_getD, List.getElem?_eq_getElem hpl]
      exact bodyL_lt s _ (List.getElem_mem hpl)
    have hlm := Crc.more_ne (by decide) (fun b hb => bodyL_lt s b (List.mem_of_mem_take hb)) (l := [v]) (m := [(bodyL s).getD p 0]) (by intro b hb; simp at hb; omega) (by intro b hb; simp only [List.mem_singleton] at hb; omega) (fun b hb => bodyL_lt s b (List.mem_of_mem_drop hb)) rfl (by simp) hc2
    have hvg : v = (bodyL s).getD p 0 := by simpa using hlm
    apply hne
    rw [hvg, hbs, List.getD_eq_getElem?_getD, List.getD_eq_getElem?_getD, List.getElem?_take_of_lt hpb]
  · have hb2 : bodyL s' = bodyL s := by
      rw [hb, hbs, List.take_set, List.set_eq_of_length_le (by rw [List.length_take]; omega)]
    have hf : fullL s' = fullL s := by rw [fullL, fullL, hn, hb2]
    rw [hf] at he
    have := congrArg (fun l : List Nat => l.getD p 0) he
    simp only [List.getD_eq_getElem?_getD, List.getElem?_set_self hp] at this
    apply hne
    rw [List.getD_eq_getElem?_getD, this]
    rfl
theorem takeO_turn {s : Sh} (h : s.may = true) {k : Nat} (hk : k < 64 * 8 * (layS s).length) (h13 : k / 8 ≠ 13) (h14 : k / 8 ≠ 14) : takeO (turnK (layS s) k) = none := takeO_none fun s' hm hl => by
  have hj : fullL s' = (fullL s).set (k / 8) ((fullL s).getD (k / 8) 0 ^^^ 2 ^ (k % 8)) := by
    rw [← join_lay s', hl, join_turn (lay_size s) hk, join_lay]
  have hp : k / 8 < (fullL s).length := by rw [fullL_len, ← layS_len]; omega
  have hgl : (fullL s).getD (k / 8) 0 < 256 := by
    rw [List.getD_eq_getElem?_getD, List.getElem?_eq_getElem hp]
    exact fullL_lt s _ (List.getElem_mem hp)
  exact turned_none h hp h13 h14 (turn_lt hgl (by omega)) (turn_ne _ _) hm hj
theorem turn_not_blank {s : Sh} {k : Nat} (hk : k < 64 * 8 * (layS s).length) : blankB (turnK (layS s) k) = false := by
  rw [blankB, join_turn (lay_size s) hk, join_lay]
  rw [Bool.eq_false_iff]
  intro hall
  rw [List.all_eq_true] at hall
  have hlen : 64 ≤ (fullL s).length := by rw [fullL_len]; have := secN_pos s.t.size; omega
  have h0 : (fullL s)[0]? = some 83 := by rw [full_head]; simp [headL]
  have h1 : (fullL s)[1]? = some 72 := by rw [full_head]; simp [headL]
  by_cases hz : k / 8 = 0
  · have := hall 72 (List.mem_of_getElem? (i := 1) (by rw [List.getElem?_set_ne (by omega)]; exact h1))
    simp at this
  · have := hall 83 (List.mem_of_getElem? (i := 0) (by rw [List.getElem?_set_ne (by omega)]; exact h0))
    simp at this
end Go.Proofs.YtiminahobifomaaDoor
