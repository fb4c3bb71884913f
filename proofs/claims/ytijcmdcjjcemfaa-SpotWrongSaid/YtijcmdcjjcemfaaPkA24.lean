/- spot.found, walked. -/
import Derived.Test.YtijcmdcjjcemfaaPkA22
import Derived.Test.YtijcmdcjjcemfaaPkA23
import Derived.Test.YtijcmdcjjcemfaaPkA05
import Derived.WalkMore
namespace Go.Proofs.Ytijcmdcjjcemfaa
open Go.ChangeShapes Go.WideShapes Go.ChangeAt Go.RowKit Go.Joins Go.Shelf
set_option linter.unusedVariables false
set_option linter.unusedSimpArgs false
attribute [local go_sem] Oper.semAt_some

/-- What was found. -/
def FoundR (B : Nat) (W : World) (r : Value) : Option (List ByteArray) → Prop
  | none => r = .slice none 0 0
  | some c => W.ownsRow B 9 1 r c.length (c.map Value.string)

theorem kept_grown {p : Nat → Prop} {a W W' : World} {row : Option Nat} (h : Kept p a W) (hg : W.grownBy W' row) (hr : ∀ r, row = some r → a.heap.size ≤ r) : Kept p a W' :=
  ⟨hg.os.trans h.os, hg.tape.trans h.tape, hg.output.trans h.output, Nat.le_trans h.size hg.size, fun k hk hp => (hg.block k (Nat.lt_of_lt_of_le hk h.size) (fun e => by have := hr k e.symm; omega)).trans (h.block k hk hp)⟩
theorem obj_alloc {w : World} {k : Nat} {x : Obj} (o : Obj) (h : w.heap[k]? = some x) : (w.alloc o).heap[k]? = some x := (Below.heap_alloc w o k (Array.getElem?_eq_some_iff.1 h).1).trans h
theorem seven_new (w : World) (o0 o1 o2 o3 o4 o5 o6 : Obj) : ∃ W, W = ((((((w.alloc o0).alloc o1).alloc o2).alloc o3).alloc o4).alloc o5).alloc o6 ∧ W.heap.size = w.heap.size + 7 ∧ Below w.heap.size w W ∧
    W.heap[w.heap.size]? = some o0 ∧ W.heap[w.heap.size + 1]? = some o1 ∧ W.heap[w.heap.size + 1 + 1]? = some o2 ∧ W.heap[w.heap.size + 1 + 1 + 1]? = some o3 ∧ W.heap[w.heap.size + 1 + 1 + 1 + 1]? = some o4 ∧ W.heap[w.heap.size + 1 + 1 + 1 + 1 + 1]? = some o5 ∧ W.heap[w.heap.size + 1 + 1 + 1 + 1 + 1 + 1]? = some o6 := by
  have n0 := World.alloc_heap_new w o0
  have n1 := World.alloc_heap_new (w.alloc o0) o1
  have n2 := World.alloc_heap_new ((w.alloc o0).alloc o1) o2
  have n3 := World.alloc_heap_new (((w.alloc o0).alloc o1).alloc o2) o3
  have n4 := World.alloc_heap_new ((((w.alloc o0).alloc o1).alloc o2).alloc o3) o4
  have n5 := World.alloc_heap_new (((((w.alloc o0).alloc o1).alloc o2).alloc o3).alloc o4) o5
  have n6 := World.alloc_heap_new ((((((w.alloc o0).alloc o1).alloc o2).alloc o3).alloc o4).alloc o5) o6
  simp only [World.size_alloc] at n1 n2 n3 n4 n5 n6
  refine ⟨_, rfl, by simp only [World.size_alloc], ?_, obj_alloc _ (obj_alloc _ (obj_alloc _ (obj_alloc _ (obj_alloc _ (obj_alloc _ n0))))), obj_alloc _ (obj_alloc _ (obj_alloc _ (obj_alloc _ (obj_alloc _ n1)))), obj_alloc _ (obj_alloc _ (obj_alloc _ (obj_alloc _ n2))), obj_alloc _ (obj_alloc _ (obj_alloc _ n3)), obj_alloc _ (obj_alloc _ n4), obj_alloc _ n5, n6⟩
  exact (((((((Below.refl _ w).alloc (Nat.le_refl _) _).alloc (by simp) _).alloc (by simp; omega) _).alloc (by simp; omega) _).alloc (by simp; omega) _).alloc (by simp; omega) _).alloc (by simp; omega) _
theorem cells_of_obj {W : World} {B i : Nat} {cs : Array Value} {t : TypeId} {v : Value} (h : W.heap[B]? = some (.cells cs t (0, 0))) (hi : cs[i]? = some v) : W.cell? ⟨B, i, none⟩ = some v ∧ W.frozen? ⟨B, i, none⟩ = false := by
  constructor <;> simp [World.cell?, World.frozen?, h, hi]
theorem three_of_obj {W : World} {B : Nat} {a b c : Value} {t : TypeId} (h : W.heap[B]? = some (.cells #[a, b, c] t (0, 0))) : Three W B a b c :=
  ⟨(cells_of_obj h rfl).1, (cells_of_obj h rfl).1, (cells_of_obj h rfl).1, (cells_of_obj h rfl).2, (cells_of_obj h rfl).2, (cells_of_obj (i := 2) h rfl).2⟩
theorem setAt_of_obj {W : World} {B n : Nat} (hn : n ≤ 100) (h : W.heap[B]? = some (.cells (Array.replicate n (.bool false)) 4 (0, 0))) : SetAt n B (List.replicate n false) W :=
  ⟨by simp, by simp, .inr ⟨B, n, _, rfl, Nat.le_refl _, h, Nat.le_refl _, by unfold maxLen; omega, by simp, by simp⟩⟩

/-- A set of which nothing comes; one of which c comes. -/
def MissS (n K M Z : Nat) (l : List ByteArray) (x : List Bool) : Prop := rebE n K (x.map not) ≠ 0 ∨ nearR n K M Z l (x.map not) = none
def HitS (n K M Z : Nat) (l : List ByteArray) (x : List Bool) (c : List ByteArray) : Prop := rebE n K (x.map not) = 0 ∧ nearR n K M Z l (x.map not) = some c
theorem rebE_zero {n K : Nat} {bs : List Bool} : rebE n K bs = 0 ↔ (haveN bs K n).length = K := by
  have := haveN_le bs K n
  unfold rebE
  split <;> omega
theorem miss_all {n K M Z : Nat} (hnk : n = K + M) {l : List ByteArray} (h : ∀ x ∈ chooseL n (M / 2), MissS n K M Z l x) : foundL n K M Z l = none := by
  unfold foundL
  rw [List.findSome?_eq_none_iff]
  intro x hx
  rcases h x hx with h1 | h1
  · exact absurd (rebE_zero.2 (there_full hnk hx)) h1
  · exact h1
theorem hit_one {n K M Z : Nat} (hnk : n = K + M) {l : List ByteArray} {p : List (List Bool)} {x : List Bool} {c : List ByteArray} (hp : p ++ [x] <+: chooseL n (M / 2)) (h : ∀ y ∈ p, MissS n K M Z l y) (hx : HitS n K M Z l x c) : foundL n K M Z l = some c := by
  obtain ⟨r, hr⟩ := hp
  unfold foundL
  rw [← hr, List.append_assoc, List.findSome?_append]
  have e : p.findSome? (fun out => nearR n K M Z l (out.map not)) = none := by
    rw [List.findSome?_eq_none_iff]
    intro y hy
    rcases h y hy with h1 | h1
    · have hm : y ∈ chooseL n (M / 2) := by rw [← hr]; exact List.mem_append_left _ (List.mem_append_left _ hy)
      exact absurd (rebE_zero.2 (there_full hnk hm)) h1
    · exact h1
  rw [e]
  simp [List.findSome?_cons, hx.2]

set_option maxRecDepth 100000 in
set_option maxHeartbeats 4000000 in
theorem found_any (K M Z : Nat) (vl : Value) (l : List ByteArray) (w : World) (k1 : 1 ≤ K) (k8 : K ≤ 8) (m6 : M ≤ 6) (z1 : 1 ≤ Z) (z2 : Z ≤ 120) (hl : Strs6 w vl l) (hll : l.length = K + M) (hsz : ∀ s ∈ l, s.size = Z) :
    Calls Try.prog 27 #[.agg #[.int .i64 (K : Int), .int .i64 (M : Int), .int .i64 (Z : Int)], vl] w fun e w' =>
      ∃ r, e = .returned r ∧ FoundR w.heap.size w' r (foundL (K + M) K M Z l) ∧ Below w.heap.size w w' := by
  obtain ⟨n, hn⟩ : ∃ n, n = K + M := ⟨_, rfl⟩
  obtain ⟨A, cl, rfl⟩ := hl.shape
  rw [← hn] at hll ⊢
  rw [hll]
  have HL := Lib.hid hl
  have HSZ := Lib.hid hsz
  have HLL := Lib.hid hll
  have HNN := Lib.hid hn
  obtain ⟨m2, hm2⟩ : ∃ m2, m2 = M / 2 := ⟨_, rfl⟩
  have hq : (M : Int).tdiv 2 = (m2 : Int) := by rw [hm2, Int.tdiv_eq_ediv_of_nonneg (by omega)]; omega
  have hqw : IntKind.i64.wrap (m2 : Int) = (m2 : Int) := IntWalk.i64_in _ (by omega)
  have hmk := hmkT (n := n) (by omega)
  have hn14 : n ≤ 14 := by omega
  have hm3 : m2 ≤ 3 := by omega
  obtain ⟨CT, hCT⟩ : ∃ C, C = Array.replicate n (Value.bool false) := ⟨_, rfl⟩
  rw [← hCT] at hmk
  have HM2 := Lib.hid hm2
  have HCT := Lib.hid hCT
  clear hl hsz hll hn hm2 hCT
  refine callsIn_wide.1 (callsIn_of_wp_marks (n := 10) Try.func27 rfl trivial ?_ rfl)
  refine wpIn_wide.2 ?_
  simp only [Try.ntmps27, List.size_toArray, List.length_cons, List.length_nil, Nat.reduceAdd, Nat.reduceSub, Array.replicate_succ, Array.replicate_zero, List.push_toArray, List.append_toArray, List.nil_append, List.cons_append]
  go_wp2_with fail
  go_step3
  go_wp2_with fail
  go_step3
  go_wp2_with (go_at_call 41; refine (sets_any n m2 _).mono ?_; rintro e w' ⟨rfl, rfl⟩)
  obtain ⟨W0, hW0, hs0, hb0, o0, o1, o2, o3, o4, o5, o6⟩ := seven_new w (.cells #[.int .i64 (K : Int), .int .i64 (M : Int), .int .i64 (Z : Int)] 29) (.cells #[.slice A n cl] 23) (.cells #[.slice none 0 0] 23) (.cells CT 4) (.cells #[.slice (some ⟨w.heap.size + 1 + 1 + 1, 0, none⟩) n n] 24) (.cells #[.int .i64 (n : Int)] 3) (.cells #[.int .i64 (m2 : Int)] 3)
  rw [← hW0]
  have hL0 := HL.out.below hb0
  rw [HLL.out] at hL0
  have t0 := three_of_obj o0
  obtain ⟨p1, _⟩ := cells_of_obj (i := 0) (v := .slice A n cl) o1 rfl
  obtain ⟨p2, f2⟩ := cells_of_obj (i := 0) (v := .slice none 0 0) o2 rfl
  rw [HCT.out] at o3
  have t3 := setAt_of_obj (by omega) o3
  obtain ⟨p4, _⟩ := cells_of_obj (i := 0) (v := .slice (some ⟨w.heap.size + 1 + 1 + 1, 0, none⟩) n n) o4 rfl
  obtain ⟨p5, _⟩ := cells_of_obj (i := 0) (v := .int .i64 (n : Int)) o5 rfl
  obtain ⟨p6, _⟩ := cells_of_obj (i := 0) (v := .int .i64 (m2 : Int)) o6 rfl
  have HSEQ := Lib.hid (sets1_of n m2 (w.heap.size + 1 + 1 + 1 + 1 + 1) (w.heap.size + 1 + 1 + 1 + 1 + 1 + 1) (by omega) (by omega) W0 (by omega) (by omega) p5 p6 9)
  have HB0 := Lib.hid hb0
  have HL0 := Lib.hid hL0
  clear hW0 o0 o1 o2 o3 o4 o5 o6 hb0 hL0 p5 p6 hmk
  obtain ⟨bS, hbS⟩ : ∃ b, b = w.heap.size := ⟨_, rfl⟩
  obtain ⟨bL, hbL⟩ : ∃ b, b = w.heap.size + 1 := ⟨_, rfl⟩
  obtain ⟨bR, hbR⟩ : ∃ b, b = w.heap.size + 1 + 1 := ⟨_, rfl⟩
  obtain ⟨bT, hbT⟩ : ∃ b, b = w.heap.size + 1 + 1 + 1 := ⟨_, rfl⟩
  obtain ⟨bB, hbB⟩ : ∃ b, b = w.heap.size + 1 + 1 + 1 + 1 := ⟨_, rfl⟩
  obtain ⟨bN, hbN⟩ : ∃ b, b = w.heap.size + 1 + 1 + 1 + 1 + 1 := ⟨_, rfl⟩
  obtain ⟨bM, hbM⟩ : ∃ b, b = w.heap.size + 1 + 1 + 1 + 1 + 1 + 1 := ⟨_, rfl⟩
  have e1 : bS < W0.heap.size ∧ bL < W0.heap.size ∧ bR < W0.heap.size ∧ bT < W0.heap.size ∧ bB < W0.heap.size ∧ w.heap.size ≤ bT ∧ w.heap.size ≤ bR := by omega
  have e2 : bS ≠ bT ∧ bL ≠ bT ∧ bR ≠ bT ∧ bB ≠ bT := by omega
  have e3 : w.heap.size ≤ W0.heap.size := by omega
  obtain ⟨ws, hws⟩ : ∃ s, s = w.heap.size := ⟨_, rfl⟩
  rw [← hws] at hbS hbL hbR hbT hbB hbN hbM t0 p1 p2 f2 t3 p4 HSEQ ⊢
  rw [← hbM, ← hbN] at HSEQ
  rw [← hbS] at t0
  rw [← hbL] at p1
  rw [← hbR] at p2 f2
  rw [← hbT] at t3
  rw [← hbB, ← hbT] at p4
  rw [← hbM, ← hbN, ← hbB, ← hbT, ← hbR, ← hbL, ← hbS]
  clear hbS hbL hbR hbT hbB hbN hbM hs0 HCT
  have P1 := Lib.hid p1
  have P2 := Lib.hid p2
  have F2 := Lib.hid f2
  have T3 := Lib.hid t3
  have P4 := Lib.hid p4
  have T0 := Lib.hid t0
  clear p1 p2 f2 t3 p4 t0
  refine (wpIn_wide (n := 10)).1 ?_
  refine wpIn_range_sets (by omega) rfl (enters_of Try.func52 (by kernel_rfl) rfl) HSEQ.out rfl
    (fun pre W => (∀ x ∈ pre, MissS n K M Z l x) ∧ (∃ T, SetAt n bT T W) ∧ Kept (fun k => k = bT) W0 W)
    (fun pre W => (∃ p x c r, pre = p ++ [x] ∧ (∀ y ∈ p, MissS n K M Z l y) ∧ HitS n K M Z l x c ∧ W.cell? ⟨bR, 0, none⟩ = some r ∧ W.ownsRow (W0.heap.size + 3) 9 1 r c.length (c.map Value.string)) ∧ Kept (fun k => k = bT ∨ k = bR) W0 W)
    (fun s W W' row hs hg hr => ⟨hs.1, hs.2.1.imp (fun T hT => hT.grown hg (fun e => by have := hr _ e; omega)), kept_grown hs.2.2 hg (fun r e => (hr r e).1)⟩)
    (fun s W W' row hs hg hr => by
      obtain ⟨⟨p, x, c, r, h1, h2, h3, h4, h5⟩, h6⟩ := hs
      refine ⟨⟨p, x, c, r, h1, h2, h3, ?_, ?_⟩, kept_grown h6 hg (fun r e => (hr r e).1)⟩
      · have hlt := cell_block h4
        rw [World.cell?_of_block (w := W) (a := ⟨bR, 0, none⟩) (hg.block bR hlt (fun e => by have := hr _ e.symm; omega))]
        exact h4
      · refine h5.kept hg ?_
        cases ho : r.ownBlock with
        | none => exact .inl rfl
        | some k => exact .inr (fun e => by have := h5.lt k ho; have := hr k e.symm; omega))
    ⟨by simp, ⟨_, T3.out⟩, Kept.refl _ _⟩
    (fun _ => { tmps := #[.agg #[.int .i64 (K : Int), .int .i64 (M : Int), .int .i64 (Z : Int)], .slice A n cl, .pointer (some ⟨bS, 0, none⟩), .pointer (some ⟨bL, 0, none⟩), .pointer (some ⟨bR, 0, none⟩), .pointer (some ⟨bB, 0, none⟩), .slice (some ⟨W0.heap.size + 2, 0, none⟩) n n, undef, undef, undef, .slice A n cl, .int .i64 (n : Int), .slice (some ⟨bT, 0, none⟩) n n, .slice A n cl, .int .i64 (n : Int), .pointer (some ⟨bS, 1, none⟩), .int .i64 (M : Int), .int .i64 (m2 : Int), .func (.func 52) #[] #[.pointer (some ⟨bN, 0, none⟩), .pointer (some ⟨bM, 0, none⟩)], .slice (some ⟨W0.heap.size + 2, 0, none⟩) n n, undef, undef, undef, undef, undef, undef, undef, undef, undef, undef, undef, undef, undef, undef, undef, undef, undef, undef, undef, undef, undef, undef, undef, undef, undef, undef, undef, undef, undef, undef, undef, undef, undef, undef], defers := [] }) ?assign ?body ?done ?stop
  case assign =>
    intro lp x W KK hK
    gi_wp2
    exact hK
  case body =>
    rintro lp pre x W ⟨hmiss, ⟨T, hT⟩, hkW⟩ hx
    have hn0 : 0 < n := by have := HNN.out; omega
    have mixed : Try.prog.follows .mixedOrders = true := by kernel_rfl
    have HMISS := Lib.hid hmiss
    have HKW := Lib.hid hkW
    have HX := Lib.hid hx
    have HT := Lib.hid hT
    have HTW := HT
    have p4 := hkW.cell_eq P4.out e2.2.2.2
    obtain ⟨bX, hbX⟩ : ∃ b, b = W0.heap.size + 2 := ⟨_, rfl⟩
    have hXT : bT < bX := by omega
    have hlX := hx.lt
    rw [← hbX] at HX hlX ⊢
    have HBX := Lib.hid hbX
    clear hmiss hkW hx hT hbX
    gi_wp2
    clear p4
    gi_loopw [7, 22] (fun _ c wr => ∃ (q : Nat) (T : List Bool), c = .int .i64 q ∧ q ≤ n ∧ Hid (SetAt n bT T wr) ∧ Hid (∀ i, i < q → T.getD i false = !x.getD i false) ∧ Hid (Kept (fun k => k = bT) W wr)) (fun _ c _ => n - (intOf c).toNat)
    case atStart => exact ⟨0, T, rfl, by omega, HT, Lib.hid (fun i hi => absurd hi (by omega)), Lib.hid (Kept.refl _ _)⟩
    case round =>
      clear HT
      obtain ⟨q, T, rfl, hqn, HT, HQ, HK⟩ := hrel
      have PP4 := Lib.hid (HK.out.cell_eq (HKW.out.cell_eq P4.out e2.2.2.2) e2.2.2.2)
      have HXr : Hid (SetAt n bX x wr) := ⟨HX.out.1, own_kept HX.out.2 HK.out (fun g hg e => by omega)⟩
      by_cases hlt : q < n
      · have hqd : decide ((q : Int) < (n : Int)) = true := by simp; omega
        have q0 : (0 : Int) ≤ (q : Int) := by omega
        have q1 : (q : Int) < (n : Int) := by omega
        have C1 := Lib.hid (HXr.out.cell hlt).1
        have HQn : Hid (∀ i, i < q + 1 → (T.set q (!x.getD q false)).getD i false = !x.getD i false) := fun i hi => by
          by_cases e : i = q
          · subst e
            have := HT.out.1
            simp [List.getD, this, hlt]
          · have h := HQ.out i (by omega)
            rw [← h]
            simp [List.getD, List.getElem?_set, show q ≠ i by omega]
        generalize x.getD q false = xq at *
        clear HXr
        gi_wp2
        refine wpIn_region_any mixed (wpAnyIn_of (noDefer_of (by kernel_rfl)) (by omega) (fun _ _ h => h) _ _ _ _ (wpAny_of_held (S := fun W' => Kept (fun k => k = bT) wr W') _ _ _ _ ?_))
        change wpAnyH _ _ _ _ _ 9 _ _ wr.drew
        have hcum := (Kept.refl (fun k => k = bT) wr).drew
        have hst : SetAt n bT T wr.drew := ⟨HT.out.1, HT.out.2.drew⟩
        obtain ⟨d1, d2⟩ := hst.cell hlt
        generalize wr.drew = V0 at *
        refine wpAnyH_take (i := 0) (oi := { dst := some 25, op := Op.load 24 (Operand.tmp 5), type := 24, pos := "spot.go:54", after := #[], guard := none }) (v := ?_) rfl (by kernel_rfl) (by kernel_rfl) (by kernel_rfl) (fun _ _ _ h => onlyEnd_panic h) (Or.inl ⟨by rfl, fun W' hW' => ?_⟩) hcum ?_
        rotate_left 1
        · (have p4 := hW'.cell_eq PP4.out e2.2.2.2; have c1 := hW'.cell_eq C1.out (by omega); go_simp)
          try rfl
        try simp only [Act.put, List.setIfInBounds_toArray, List.set_cons_zero, List.set_cons_succ]
        refine wpAnyH_take (i := 1) (oi := { dst := some 26, op := Op.move (Operand.tmp 7), type := 3, pos := "spot.go:54", after := #[], guard := none }) (v := ?_) rfl (by kernel_rfl) (by kernel_rfl) (by kernel_rfl) (fun _ _ _ h => onlyEnd_panic h) (Or.inl ⟨by rfl, fun W' hW' => ?_⟩) hcum ?_
        rotate_left 1
        · go_simp
          try rfl
        try simp only [Act.put, List.setIfInBounds_toArray, List.set_cons_zero, List.set_cons_succ]
        refine wpAnyH_take (i := 2) (oi := { dst := some 27, op := Op.move (Operand.tmp 6), type := 24, pos := "spot.go:54", after := #[], guard := none }) (v := ?_) rfl (by kernel_rfl) (by kernel_rfl) (by kernel_rfl) (fun _ _ _ h => onlyEnd_panic h) (Or.inl ⟨by rfl, fun W' hW' => ?_⟩) hcum ?_
        rotate_left 1
        · go_simp
          try rfl
        try simp only [Act.put, List.setIfInBounds_toArray, List.set_cons_zero, List.set_cons_succ]
        refine wpAnyH_take (i := 3) (oi := { dst := some 28, op := Op.move (Operand.tmp 7), type := 3, pos := "spot.go:54", after := #[], guard := none }) (v := ?_) rfl (by kernel_rfl) (by kernel_rfl) (by kernel_rfl) (fun _ _ _ h => onlyEnd_panic h) (Or.inl ⟨by rfl, fun W' hW' => ?_⟩) hcum ?_
        rotate_left 1
        · go_simp
          try rfl
        try simp only [Act.put, List.setIfInBounds_toArray, List.set_cons_zero, List.set_cons_succ]
        refine wpAnyH_take (i := 4) (oi := { dst := some 29, op := Op.indexAddr 24 (Operand.tmp 27) (Operand.tmp 28), type := 0, pos := "spot.go:54", after := #[{ on := 2, ground := Ground.data }, { on := 3, ground := Ground.data }], guard := none }) (v := ?_) rfl (by kernel_rfl) (by kernel_rfl) (by kernel_rfl) (fun _ _ _ h => onlyEnd_panic h) (Or.inl ⟨by rfl, fun W' hW' => ?_⟩) hcum ?_
        rotate_left 1
        · go_simp
          try rfl
        try simp only [Act.put, List.setIfInBounds_toArray, List.set_cons_zero, List.set_cons_succ]
        refine wpAnyH_take (i := 5) (oi := { dst := some 30, op := Op.load 4 (Operand.tmp 29), type := 4, pos := "spot.go:54", after := #[{ on := 4, ground := Ground.data }], guard := none }) (v := ?_) rfl (by kernel_rfl) (by kernel_rfl) (by kernel_rfl) (fun _ _ _ h => onlyEnd_panic h) (Or.inl ⟨by rfl, fun W' hW' => ?_⟩) hcum ?_
        rotate_left 1
        · (have p4 := hW'.cell_eq PP4.out e2.2.2.2; have c1 := hW'.cell_eq C1.out (by omega); go_simp)
          try rfl
        try simp only [Act.put, List.setIfInBounds_toArray, List.set_cons_zero, List.set_cons_succ]
        refine wpAnyH_take (i := 6) (oi := { dst := some 31, op := Op.unOp UnOp.not 4 (Operand.tmp 30), type := 4, pos := "spot.go:54", after := #[{ on := 5, ground := Ground.data }], guard := none }) (v := ?_) rfl (by kernel_rfl) (by kernel_rfl) (by kernel_rfl) (fun _ _ _ h => onlyEnd_panic h) (Or.inl ⟨by rfl, fun W' hW' => ?_⟩) hcum ?_
        rotate_left 1
        · go_simp
          try rfl
        try simp only [Act.put, List.setIfInBounds_toArray, List.set_cons_zero, List.set_cons_succ]
        refine wpAnyH_take (i := 7) (oi := { dst := some 32, op := Op.indexAddr 24 (Operand.tmp 25) (Operand.tmp 26), type := 0, pos := "spot.go:54", after := #[{ on := 0, ground := Ground.data }, { on := 1, ground := Ground.data }, { on := 0, ground := Ground.phase }, { on := 1, ground := Ground.phase }, { on := 2, ground := Ground.phase }, { on := 3, ground := Ground.phase }, { on := 4, ground := Ground.phase }, { on := 5, ground := Ground.phase }, { on := 6, ground := Ground.phase }], guard := none }) (v := ?_) rfl (by kernel_rfl) (by kernel_rfl) (by kernel_rfl) (fun _ _ _ h => onlyEnd_panic h) (Or.inl ⟨by rfl, fun W' hW' => ?_⟩) hcum ?_
        rotate_left 1
        · go_simp
          try rfl
        try simp only [Act.put, List.setIfInBounds_toArray, List.set_cons_zero, List.set_cons_succ]
        refine wpAnyH_ready (rs := [8]) (by kernel_rfl) (by simp) ?_
        refine AllReadyH.cons (o := { dst := none, op := Op.store 4 (Operand.tmp 32) (Operand.tmp 31), type := 0, pos := "spot.go:54", after := #[{ on := 7, ground := Ground.data }, { on := 6, ground := Ground.data }, { on := 0, ground := Ground.phase }, { on := 1, ground := Ground.phase }, { on := 2, ground := Ground.phase }, { on := 3, ground := Ground.phase }, { on := 4, ground := Ground.phase }, { on := 5, ground := Ground.phase }, { on := 6, ground := Ground.phase }], guard := none }) rfl (fun KK hK => ?_) AllReadyH.nil
        rw [if_pos (by rfl)]
        go_simp
        have hst := hst.stored q (!xq)
        have hcum := hcum.setCell (d := ⟨bT, q, none⟩) (fun _ => rfl) (.bool (!xq))
        refine hK.out _ _ hcum (fun _ => ?_)
        clear hK d1 d2
        generalize V0.setCell ⟨bT, q, none⟩ (.bool (!xq)) = V1 at *
        try simp only [Act.put, List.setIfInBounds_toArray, List.set_cons_zero, List.set_cons_succ]
        refine wpAnyH_done (by kernel_rfl) ⟨rfl, ?_⟩ _
        have HTn := Lib.hid hst
        have HKn := Lib.hid (HK.out.trans hcum)
        clear hst hcum
        gi_wp2
        go_roundw
        case rel => exact ⟨q + 1, T.set q (!xq), by go_num, by omega, HTn, HQn, HKn⟩
        case measure => simp [intOf]; omega
      · have hqe : q = n := by omega
        have hqd : decide ((q : Int) < (n : Int)) = false := by simp; omega
        have hTx : T = x.map not := by
          apply List.ext_getElem
          · rw [List.length_map, HT.out.1, HX.out.1]
          · intro i h1 h2
            have hi : i < q := by rw [hqe, ← HT.out.1]; exact h1
            have h := HQ.out i hi
            rw [List.length_map] at h2
            rw [List.getD_eq_getElem?_getD, List.getD_eq_getElem?_getD, List.getElem?_eq_getElem h1, List.getElem?_eq_getElem h2] at h
            rw [List.getElem_map]
            exact h
        subst hTx
        have HKr := Lib.hid (HKW.out.trans HK.out)
        have HBr := Lib.hid (HB0.out.trans (HKr.out.below e3 (fun k hk e => by omega)))
        have hlr := HL.out.below HBr.out
        rw [HLL.out] at hlr
        have HLr := Lib.hid hlr
        have T0r := Lib.hid (T0.out.kept HKr.out e2.1)
        have P1r := Lib.hid (HKr.out.cell_eq P1.out e2.2.1)
        have hbr := boolsIn_own (w := wr) (B := bT) (e := 4) (v := .slice (some ⟨bT, 0, none⟩) n n) (T := x.map not) (by rw [HT.out.1]; exact HT.out.2) (by rw [HT.out.1]; omega)
        have hsz : ∀ i, (x.map not).getD i false = true → (l.getD i ByteArray.empty).size = Z := fun i hi => by
          have hin : i < l.length := by
            rw [HLL.out, ← HT.out.1]
            by_cases h : i < (x.map not).length
            · exact h
            · rw [List.getD_eq_getElem?_getD, List.getElem?_eq_none (by omega)] at hi; cases hi
          rw [List.getD_eq_getElem?_getD, List.getElem?_eq_getElem hin]
          exact HSZ.out _ (List.getElem_mem hin)
        have hrb := rebuild_any K M Z (.slice A n cl) (.slice (some ⟨bT, 0, none⟩) n n) l (x.map not) wr k1 k8 m6 z1 z2 hlr hbr (by rw [HLL.out, HNN.out]) (by rw [HT.out.1, HNN.out]) hsz
        rw [← HNN.out] at hrb
        have HRB := Lib.hid hrb
        obtain ⟨x0, x1, x2, _, _, _⟩ := T0r.out
        have p1 := P1r.out
        have p4 := PP4.out
        clear hqe hlr hbr hsz hrb HQ
        gi_wp2_with (refine ⟨trivial, ?_⟩; gi_at_call 42; refine (CallsIn.inRound lp (callsIn_wide.2 HRB.out)).mono ?_; rintro e V1 ⟨r, rfl, hor, hb1⟩)
        have T0v := Lib.hid (T0r.out.below hb1)
        have P1v := Lib.hid (below_celllt P1r.out (cell_block P1r.out) hb1)
        have HLV := Lib.hid (HLr.out.below hb1)
        have HOR := Lib.hid hor
        have HKV := Lib.hid (HK.out.trans (Kept.of_below hb1))
        have HXV := Lib.hid (HXr.out.below hb1)
        have HTV := Lib.hid (HT.out.below hb1)
        have HWR3 : Hid (W0.heap.size + 3 ≤ wr.heap.size) := by have := HXr.out.lt; have := HBX.out; rw [Hid]; omega
        have HWR : Hid (bR < wr.heap.size) := by have := HWR3.out; rw [Hid]; omega
        clear x0 x1 x2 p1 p4 hor hb1 HRB
        have HEN := Lib.hid (HT.out.1)
        clear HT
        by_cases h0 : rebE n K (x.map not) = 0
        · have hfull := rebE_zero.1 h0
          have HXL0 := code_len (reb_code (n := n) (K := K) (Z := Z) (bs := x.map not) (l := l) hfull)
          have HNR : Hid (nearR n K M Z l (x.map not) = if (unlN (rebL n K Z (x.map not) l) l n).length ≤ M / 2 then some (rebL n K Z (x.map not) l) else none) := rfl
          have H0 := Lib.hid h0
          rw [h0]
          obtain ⟨X, hX⟩ : ∃ X, X = rebL n K Z (x.map not) l := ⟨_, rfl⟩
          rw [← hX] at HOR HNR HXL0
          have HXL := Lib.hid HXL0
          have HXR : Hid (Strs6 V1 r X) := RowIs.of_own HOR.out
          obtain ⟨u, hu⟩ : ∃ u, u = (unlN X l n).length := ⟨_, rfl⟩
          rw [← hu, ← HM2.out] at HNR
          have HU : Hid ((unlN X l n).length = u) := hu.symm
          clear h0 hfull HXL0 hX hu
          by_cases hle : u ≤ m2
          · have hd : decide ((m2 : Int) < (u : Int)) = false := by simp; omega
            have HHT : Hid (HitS n K M Z l x X) := ⟨H0.out, by rw [HNR.out, if_pos hle]⟩
            clear HNR
            gi_wp2
            refine wpIn_region_any mixed (wpAnyIn_of (noDefer_of (by kernel_rfl)) (by omega) (fun _ _ h => h) _ _ _ _ (wpAny_of_held (S := fun W' => Below V1.heap.size V1 W') _ _ _ _ ?_))
            change wpAnyH _ _ _ _ _ 12 _ _ V1.drew
            have hcum := (Below.refl V1.heap.size V1).drew
            generalize V1.drew = V0 at *
            refine wpAnyH_take (i := 0) (oi := { dst := some 41, op := Op.move (Operand.tmp 9), type := 36, pos := "spot.go:57", after := #[], guard := none }) (v := ?_) rfl (by kernel_rfl) (by kernel_rfl) (by kernel_rfl) (fun _ _ _ h => onlyEnd_panic h) (Or.inl ⟨by rfl, fun W' hW' => ?_⟩) hcum ?_
            rotate_left 1
            · go_simp
              try rfl
            try simp only [Act.put, List.setIfInBounds_toArray, List.set_cons_zero, List.set_cons_succ]
            refine wpAnyH_take (i := 1) (oi := { dst := some 42, op := Op.binOp BinOp.neq 36 (Operand.tmp 41) (Operand.const (Value.int IntKind.i64 0)) 36, type := 4, pos := "spot.go:57", after := #[{ on := 0, ground := Ground.data }], guard := none }) (v := ?_) rfl (by kernel_rfl) (by kernel_rfl) (by kernel_rfl) (fun _ _ _ h => onlyEnd_panic h) (Or.inl ⟨by rfl, fun W' hW' => ?_⟩) hcum ?_
            rotate_left 1
            · go_simp
              try rfl
            try simp only [Act.put, List.setIfInBounds_toArray, List.set_cons_zero, List.set_cons_succ]
            refine wpAnyH_take (i := 2) (oi := { dst := some 43, op := Op.move (Operand.tmp 42), type := 4, pos := "spot.go:57", after := #[{ on := 1, ground := Ground.data }], guard := none }) (v := ?_) rfl (by kernel_rfl) (by kernel_rfl) (by kernel_rfl) (fun _ _ _ h => onlyEnd_panic h) (Or.inl ⟨by rfl, fun W' hW' => ?_⟩) hcum ?_
            rotate_left 1
            · go_simp
              try rfl
            try simp only [Act.put, List.setIfInBounds_toArray, List.set_cons_zero, List.set_cons_succ]
            refine wpAnyH_take (i := 3) (oi := { dst := some 44, op := Op.move (Operand.tmp 8), type := 23, pos := "spot.go:57", after := #[{ on := 2, ground := Ground.guard }], guard := some (2, false) }) (v := ?_) rfl (by kernel_rfl) (by kernel_rfl) (by kernel_rfl) (fun _ _ _ h => onlyEnd_panic h) (Or.inl ⟨by rfl, fun W' hW' => ?_⟩) hcum ?_
            rotate_left 1
            · go_simp
              try rfl
            try simp only [Act.put, List.setIfInBounds_toArray, List.set_cons_zero, List.set_cons_succ]
            refine wpAnyH_take (i := 4) (oi := { dst := some 45, op := Op.load 23 (Operand.tmp 3), type := 23, pos := "spot.go:57", after := #[{ on := 2, ground := Ground.guard }], guard := some (2, false) }) (v := ?_) rfl (by kernel_rfl) (by kernel_rfl) (by kernel_rfl) (fun _ _ _ h => onlyEnd_panic h) (Or.inl ⟨by rfl, fun W' hW' => ?_⟩) hcum ?_
            rotate_left 1
            · (obtain ⟨x0, x1, x2, _, _, _⟩ := T0v.out.below hW'; have p1 := below_celllt P1v.out (cell_block P1v.out) hW'; go_simp)
              try rfl
            try simp only [Act.put, List.setIfInBounds_toArray, List.set_cons_zero, List.set_cons_succ]
            refine wpAnyH_take (i := 7) (oi := { dst := some 48, op := Op.fieldAddr 29 (Operand.tmp 2) 1, type := 0, pos := "spot.go:57", after := #[{ on := 2, ground := Ground.guard }], guard := some (2, false) }) (v := ?_) rfl (by kernel_rfl) (by kernel_rfl) (by kernel_rfl) (fun _ _ _ h => onlyEnd_panic h) (Or.inl ⟨by rfl, fun W' hW' => ?_⟩) hcum ?_
            rotate_left 1
            · go_simp
              try rfl
            try simp only [Act.put, List.setIfInBounds_toArray, List.set_cons_zero, List.set_cons_succ]
            refine wpAnyH_take (i := 8) (oi := { dst := some 49, op := Op.load 3 (Operand.tmp 48), type := 3, pos := "spot.go:57", after := #[{ on := 7, ground := Ground.data }, { on := 2, ground := Ground.guard }], guard := some (2, false) }) (v := ?_) rfl (by kernel_rfl) (by kernel_rfl) (by kernel_rfl) (fun _ _ _ h => onlyEnd_panic h) (Or.inl ⟨by rfl, fun W' hW' => ?_⟩) hcum ?_
            rotate_left 1
            · (obtain ⟨x0, x1, x2, _, _, _⟩ := T0v.out.below hW'; have p1 := below_celllt P1v.out (cell_block P1v.out) hW'; go_simp)
              try rfl
            try simp only [Act.put, List.setIfInBounds_toArray, List.set_cons_zero, List.set_cons_succ]
            refine wpAnyH_take (i := 9) (oi := { dst := some 50, op := Op.binOp BinOp.quo 3 (Operand.tmp 49) (Operand.const (Value.int IntKind.i64 2)) 3, type := 3, pos := "spot.go:57", after := #[{ on := 8, ground := Ground.data }, { on := 2, ground := Ground.guard }], guard := some (2, false) }) (v := ?_) rfl (by kernel_rfl) (by kernel_rfl) (by kernel_rfl) (fun _ _ _ h => onlyEnd_panic h) (Or.inl ⟨by rfl, fun W' hW' => ?_⟩) hcum ?_
            rotate_left 1
            · go_simp
              try rfl
            try simp only [Act.put, List.setIfInBounds_toArray, List.set_cons_zero, List.set_cons_succ]
            refine wpAnyH_ready (rs := [5]) (by kernel_rfl) (by simp) ?_
            refine AllReadyH.cons (o := { dst := some 46, op := Op.call { callee := Callee.value (Operand.func 25), args := #[Operand.tmp 44, Operand.tmp 45], argTypes := #[23, 23] }, type := 34, pos := "spot.go:57", after := #[{ on := 3, ground := Ground.data }, { on := 4, ground := Ground.data }, { on := 2, ground := Ground.chain }, { on := 2, ground := Ground.guard }], guard := some (2, false) }) rfl (fun KK hK => ?_) AllReadyH.nil
            rw [if_pos (by rfl)]
            go_simp
            refine (unlike_any r (.slice A n cl) X l n V0 (HXR.out.below hcum) (HLV.out.below hcum) HXL.out HLL.out (by omega)).mono ?_
            rintro e V1 ⟨ru, rfl, hou, hbe⟩
            obtain ⟨Au, cu, rfl⟩ := own_shape hou
            rw [HU.out]
            clear hou
            have hcum := hcum.trans (hbe.mono hcum.size)
            refine hK.out _ _ hcum (fun _ => ?_)
            clear hK hbe
            try simp only [Act.put, List.setIfInBounds_toArray, List.set_cons_zero, List.set_cons_succ]
            refine wpAnyH_take (i := 6) (oi := { dst := some 47, op := Op.call { callee := Callee.builtin Builtin.len, args := #[Operand.tmp 46], argTypes := #[34] }, type := 3, pos := "spot.go:57", after := #[{ on := 5, ground := Ground.data }, { on := 2, ground := Ground.guard }], guard := some (2, false) }) (v := ?_) rfl (by kernel_rfl) (by kernel_rfl) (by kernel_rfl) (fun _ _ _ h => onlyEnd_panic h) (Or.inl ⟨by rfl, fun W' hW' => ?_⟩) hcum ?_
            rotate_left 1
            · go_simp
              try rfl
            try simp only [Act.put, List.setIfInBounds_toArray, List.set_cons_zero, List.set_cons_succ]
            refine wpAnyH_take (i := 10) (oi := { dst := some 51, op := Op.binOp BinOp.gtr 3 (Operand.tmp 47) (Operand.tmp 50) 3, type := 4, pos := "spot.go:57", after := #[{ on := 6, ground := Ground.data }, { on := 9, ground := Ground.data }, { on := 2, ground := Ground.guard }], guard := some (2, false) }) (v := ?_) rfl (by kernel_rfl) (by kernel_rfl) (by kernel_rfl) (fun _ _ _ h => onlyEnd_panic h) (Or.inl ⟨by rfl, fun W' hW' => ?_⟩) hcum ?_
            rotate_left 1
            · go_simp
              try rfl
            try simp only [Act.put, List.setIfInBounds_toArray, List.set_cons_zero, List.set_cons_succ]
            refine wpAnyH_take (i := 11) (oi := { dst := some 52, op := Op.pick (Operand.tmp 43) (Operand.const (Value.bool true)) (Operand.tmp 51), type := 4, pos := "spot.go:57", after := #[{ on := 2, ground := Ground.data }, { on := 10, ground := Ground.data }], guard := none }) (v := ?_) rfl (by kernel_rfl) (by kernel_rfl) (by kernel_rfl) (fun _ _ _ h => onlyEnd_panic h) (Or.inl ⟨by rfl, fun W' hW' => ?_⟩) hcum ?_
            rotate_left 1
            · go_simp
              try rfl
            try simp only [Act.put, List.setIfInBounds_toArray, List.set_cons_zero, List.set_cons_succ]
            refine wpAnyH_done (by kernel_rfl) ⟨rfl, ?_⟩ _
            have HC := Lib.hid hcum
            have hk := HKV.out.trans (Kept.of_below HC.out)
            have hkW0 := HKW.out.trans hk
            have p2 := hkW0.cell_eq P2.out e2.2.2.1
            have f2 := (hkW0.frozen (d := ⟨bR, 0, none⟩) e1.2.2.1 e2.2.2.1).trans F2.out
            have hor2 := HOR.out.kept (row := none) ⟨HC.out.os, HC.out.tape, HC.out.output, HC.out.size, fun j hj _ => HC.out.block j hj⟩ (by cases hv : Value.ownBlock r <;> simp)
            have HOR2 := Lib.hid hor2
            have HKK := Lib.hid hk
            have HK0 := Lib.hid hkW0
            have hrs := own_shape hor2
            obtain ⟨Ar, cr, rfl⟩ := hrs
            have P2L := Lib.hid p2
            have F2L := Lib.hid f2
            clear hcum hor2 hk hkW0
            gi_wp2
            have hlt2 := cell_block P2L.out
            have hno : Value.ownBlock (.slice Ar X.length cr) ≠ some bR := fun e => by have := (HOR2.out.lt _ e).1; have := HWR.out; omega
            refine ⟨?_, ?_, ⟨pre, x, X, .slice Ar X.length cr, rfl, HMISS.out, HHT.out, ?_, ?_⟩, ?_⟩
            · exact (keepsOthers_of HKK.out (HTW.out.cell (i := 0) (by omega)).1).trans (KeepsOthers.setCell _ _ _)
            · exact (HXV.out.below HC.out).grown (grown_setB _ bR 0 _) (fun e => by have := Option.some.inj e; have := HBX.out; omega)
            · exact World.cell?_setCell_same' _ _ _ (by rw [P2L.out]; rfl)
            · exact (HOR2.out.mono HWR3.out).kept (grown_setB _ bR 0 _) (.inr hno)
            · exact (HK0.out.mono (fun k _ e => .inl e)).setCell (d := ⟨bR, 0, none⟩) (fun _ => .inr rfl) _
          · have hd : decide ((m2 : Int) < (u : Int)) = true := by simp; omega
            have HMS : Hid (MissS n K M Z l x) := .inr (by rw [HNR.out, if_neg hle])
            clear HNR
            gi_wp2
            refine wpIn_region_any mixed (wpAnyIn_of (noDefer_of (by kernel_rfl)) (by omega) (fun _ _ h => h) _ _ _ _ (wpAny_of_held (S := fun W' => Below V1.heap.size V1 W') _ _ _ _ ?_))
            change wpAnyH _ _ _ _ _ 12 _ _ V1.drew
            have hcum := (Below.refl V1.heap.size V1).drew
            generalize V1.drew = V0 at *
            refine wpAnyH_take (i := 0) (oi := { dst := some 41, op := Op.move (Operand.tmp 9), type := 36, pos := "spot.go:57", after := #[], guard := none }) (v := ?_) rfl (by kernel_rfl) (by kernel_rfl) (by kernel_rfl) (fun _ _ _ h => onlyEnd_panic h) (Or.inl ⟨by rfl, fun W' hW' => ?_⟩) hcum ?_
            rotate_left 1
            · go_simp
              try rfl
            try simp only [Act.put, List.setIfInBounds_toArray, List.set_cons_zero, List.set_cons_succ]
            refine wpAnyH_take (i := 1) (oi := { dst := some 42, op := Op.binOp BinOp.neq 36 (Operand.tmp 41) (Operand.const (Value.int IntKind.i64 0)) 36, type := 4, pos := "spot.go:57", after := #[{ on := 0, ground := Ground.data }], guard := none }) (v := ?_) rfl (by kernel_rfl) (by kernel_rfl) (by kernel_rfl) (fun _ _ _ h => onlyEnd_panic h) (Or.inl ⟨by rfl, fun W' hW' => ?_⟩) hcum ?_
            rotate_left 1
            · go_simp
              try rfl
            try simp only [Act.put, List.setIfInBounds_toArray, List.set_cons_zero, List.set_cons_succ]
            refine wpAnyH_take (i := 2) (oi := { dst := some 43, op := Op.move (Operand.tmp 42), type := 4, pos := "spot.go:57", after := #[{ on := 1, ground := Ground.data }], guard := none }) (v := ?_) rfl (by kernel_rfl) (by kernel_rfl) (by kernel_rfl) (fun _ _ _ h => onlyEnd_panic h) (Or.inl ⟨by rfl, fun W' hW' => ?_⟩) hcum ?_
            rotate_left 1
            · go_simp
              try rfl
            try simp only [Act.put, List.setIfInBounds_toArray, List.set_cons_zero, List.set_cons_succ]
            refine wpAnyH_take (i := 3) (oi := { dst := some 44, op := Op.move (Operand.tmp 8), type := 23, pos := "spot.go:57", after := #[{ on := 2, ground := Ground.guard }], guard := some (2, false) }) (v := ?_) rfl (by kernel_rfl) (by kernel_rfl) (by kernel_rfl) (fun _ _ _ h => onlyEnd_panic h) (Or.inl ⟨by rfl, fun W' hW' => ?_⟩) hcum ?_
            rotate_left 1
            · go_simp
              try rfl
            try simp only [Act.put, List.setIfInBounds_toArray, List.set_cons_zero, List.set_cons_succ]
            refine wpAnyH_take (i := 4) (oi := { dst := some 45, op := Op.load 23 (Operand.tmp 3), type := 23, pos := "spot.go:57", after := #[{ on := 2, ground := Ground.guard }], guard := some (2, false) }) (v := ?_) rfl (by kernel_rfl) (by kernel_rfl) (by kernel_rfl) (fun _ _ _ h => onlyEnd_panic h) (Or.inl ⟨by rfl, fun W' hW' => ?_⟩) hcum ?_
            rotate_left 1
            · (obtain ⟨x0, x1, x2, _, _, _⟩ := T0v.out.below hW'; have p1 := below_celllt P1v.out (cell_block P1v.out) hW'; go_simp)
              try rfl
            try simp only [Act.put, List.setIfInBounds_toArray, List.set_cons_zero, List.set_cons_succ]
            refine wpAnyH_take (i := 7) (oi := { dst := some 48, op := Op.fieldAddr 29 (Operand.tmp 2) 1, type := 0, pos := "spot.go:57", after := #[{ on := 2, ground := Ground.guard }], guard := some (2, false) }) (v := ?_) rfl (by kernel_rfl) (by kernel_rfl) (by kernel_rfl) (fun _ _ _ h => onlyEnd_panic h) (Or.inl ⟨by rfl, fun W' hW' => ?_⟩) hcum ?_
            rotate_left 1
            · go_simp
              try rfl
            try simp only [Act.put, List.setIfInBounds_toArray, List.set_cons_zero, List.set_cons_succ]
            refine wpAnyH_take (i := 8) (oi := { dst := some 49, op := Op.load 3 (Operand.tmp 48), type := 3, pos := "spot.go:57", after := #[{ on := 7, ground := Ground.data }, { on := 2, ground := Ground.guard }], guard := some (2, false) }) (v := ?_) rfl (by kernel_rfl) (by kernel_rfl) (by kernel_rfl) (fun _ _ _ h => onlyEnd_panic h) (Or.inl ⟨by rfl, fun W' hW' => ?_⟩) hcum ?_
            rotate_left 1
            · (obtain ⟨x0, x1, x2, _, _, _⟩ := T0v.out.below hW'; have p1 := below_celllt P1v.out (cell_block P1v.out) hW'; go_simp)
              try rfl
            try simp only [Act.put, List.setIfInBounds_toArray, List.set_cons_zero, List.set_cons_succ]
            refine wpAnyH_take (i := 9) (oi := { dst := some 50, op := Op.binOp BinOp.quo 3 (Operand.tmp 49) (Operand.const (Value.int IntKind.i64 2)) 3, type := 3, pos := "spot.go:57", after := #[{ on := 8, ground := Ground.data }, { on := 2, ground := Ground.guard }], guard := some (2, false) }) (v := ?_) rfl (by kernel_rfl) (by kernel_rfl) (by kernel_rfl) (fun _ _ _ h => onlyEnd_panic h) (Or.inl ⟨by rfl, fun W' hW' => ?_⟩) hcum ?_
            rotate_left 1
            · go_simp
              try rfl
            try simp only [Act.put, List.setIfInBounds_toArray, List.set_cons_zero, List.set_cons_succ]
            refine wpAnyH_ready (rs := [5]) (by kernel_rfl) (by simp) ?_
            refine AllReadyH.cons (o := { dst := some 46, op := Op.call { callee := Callee.value (Operand.func 25), args := #[Operand.tmp 44, Operand.tmp 45], argTypes := #[23, 23] }, type := 34, pos := "spot.go:57", after := #[{ on := 3, ground := Ground.data }, { on := 4, ground := Ground.data }, { on := 2, ground := Ground.chain }, { on := 2, ground := Ground.guard }], guard := some (2, false) }) rfl (fun KK hK => ?_) AllReadyH.nil
            rw [if_pos (by rfl)]
            go_simp
            refine (unlike_any r (.slice A n cl) X l n V0 (HXR.out.below hcum) (HLV.out.below hcum) HXL.out HLL.out (by omega)).mono ?_
            rintro e V1 ⟨ru, rfl, hou, hbe⟩
            obtain ⟨Au, cu, rfl⟩ := own_shape hou
            rw [HU.out]
            clear hou
            have hcum := hcum.trans (hbe.mono hcum.size)
            refine hK.out _ _ hcum (fun _ => ?_)
            clear hK hbe
            try simp only [Act.put, List.setIfInBounds_toArray, List.set_cons_zero, List.set_cons_succ]
            refine wpAnyH_take (i := 6) (oi := { dst := some 47, op := Op.call { callee := Callee.builtin Builtin.len, args := #[Operand.tmp 46], argTypes := #[34] }, type := 3, pos := "spot.go:57", after := #[{ on := 5, ground := Ground.data }, { on := 2, ground := Ground.guard }], guard := some (2, false) }) (v := ?_) rfl (by kernel_rfl) (by kernel_rfl) (by kernel_rfl) (fun _ _ _ h => onlyEnd_panic h) (Or.inl ⟨by rfl, fun W' hW' => ?_⟩) hcum ?_
            rotate_left 1
            · go_simp
              try rfl
            try simp only [Act.put, List.setIfInBounds_toArray, List.set_cons_zero, List.set_cons_succ]
            refine wpAnyH_take (i := 10) (oi := { dst := some 51, op := Op.binOp BinOp.gtr 3 (Operand.tmp 47) (Operand.tmp 50) 3, type := 4, pos := "spot.go:57", after := #[{ on := 6, ground := Ground.data }, { on := 9, ground := Ground.data }, { on := 2, ground := Ground.guard }], guard := some (2, false) }) (v := ?_) rfl (by kernel_rfl) (by kernel_rfl) (by kernel_rfl) (fun _ _ _ h => onlyEnd_panic h) (Or.inl ⟨by rfl, fun W' hW' => ?_⟩) hcum ?_
            rotate_left 1
            · go_simp
              try rfl
            try simp only [Act.put, List.setIfInBounds_toArray, List.set_cons_zero, List.set_cons_succ]
            refine wpAnyH_take (i := 11) (oi := { dst := some 52, op := Op.pick (Operand.tmp 43) (Operand.const (Value.bool true)) (Operand.tmp 51), type := 4, pos := "spot.go:57", after := #[{ on := 2, ground := Ground.data }, { on := 10, ground := Ground.data }], guard := none }) (v := ?_) rfl (by kernel_rfl) (by kernel_rfl) (by kernel_rfl) (fun _ _ _ h => onlyEnd_panic h) (Or.inl ⟨by rfl, fun W' hW' => ?_⟩) hcum ?_
            rotate_left 1
            · go_simp
              try rfl
            try simp only [Act.put, List.setIfInBounds_toArray, List.set_cons_zero, List.set_cons_succ]
            refine wpAnyH_done (by kernel_rfl) ⟨rfl, ?_⟩ _
            have HC := Lib.hid hcum
            clear hcum
            gi_wp2
            have hk := HKV.out.trans (Kept.of_below HC.out)
            exact ⟨keepsOthers_of hk (HTW.out.cell (i := 0) (by omega)).1, (HXV.out.below HC.out), ⟨fun y hy => (List.mem_append.1 hy).elim (HMISS.out y) (fun e => by simp at e; subst e; exact HMS.out), ⟨_, (HTV.out.below HC.out)⟩, HKW.out.trans hk⟩⟩
        · have HMS : Hid (MissS n K M Z l x) := .inl h0
          have he : rebE n K (x.map not) = 8 := by
            unfold rebE at h0 ⊢
            split
            · rfl
            · rename_i hx; rw [if_neg hx] at h0; exact absurd rfl h0
          rw [he]
          clear h0 he
          gi_wp2
          refine wpIn_region_any mixed (wpAnyIn_of (noDefer_of (by kernel_rfl)) (by omega) (fun _ _ h => h) _ _ _ _ (wpAny_of_held (S := fun W' => Below V1.heap.size V1 W') _ _ _ _ ?_))
          change wpAnyH _ _ _ _ _ 12 _ _ V1.drew
          have hcum := (Below.refl V1.heap.size V1).drew
          generalize V1.drew = V0 at *
          refine wpAnyH_take (i := 0) (oi := { dst := some 41, op := Op.move (Operand.tmp 9), type := 36, pos := "spot.go:57", after := #[], guard := none }) (v := ?_) rfl (by kernel_rfl) (by kernel_rfl) (by kernel_rfl) (fun _ _ _ h => onlyEnd_panic h) (Or.inl ⟨by rfl, fun W' hW' => ?_⟩) hcum ?_
          rotate_left 1
          · go_simp
            try rfl
          try simp only [Act.put, List.setIfInBounds_toArray, List.set_cons_zero, List.set_cons_succ]
          refine wpAnyH_take (i := 1) (oi := { dst := some 42, op := Op.binOp BinOp.neq 36 (Operand.tmp 41) (Operand.const (Value.int IntKind.i64 0)) 36, type := 4, pos := "spot.go:57", after := #[{ on := 0, ground := Ground.data }], guard := none }) (v := ?_) rfl (by kernel_rfl) (by kernel_rfl) (by kernel_rfl) (fun _ _ _ h => onlyEnd_panic h) (Or.inl ⟨by rfl, fun W' hW' => ?_⟩) hcum ?_
          rotate_left 1
          · go_simp
            try rfl
          try simp only [Act.put, List.setIfInBounds_toArray, List.set_cons_zero, List.set_cons_succ]
          refine wpAnyH_take (i := 2) (oi := { dst := some 43, op := Op.move (Operand.tmp 42), type := 4, pos := "spot.go:57", after := #[{ on := 1, ground := Ground.data }], guard := none }) (v := ?_) rfl (by kernel_rfl) (by kernel_rfl) (by kernel_rfl) (fun _ _ _ h => onlyEnd_panic h) (Or.inl ⟨by rfl, fun W' hW' => ?_⟩) hcum ?_
          rotate_left 1
          · go_simp
            try rfl
          try simp only [Act.put, List.setIfInBounds_toArray, List.set_cons_zero, List.set_cons_succ]
          refine wpAnyH_take (i := 3) (oi := { dst := some 44, op := Op.move (Operand.tmp 8), type := 23, pos := "spot.go:57", after := #[{ on := 2, ground := Ground.guard }], guard := some (2, false) }) (v := undef) rfl (by kernel_rfl) (by kernel_rfl) (by kernel_rfl) (fun _ _ _ h => onlyEnd_panic h) (Or.inr ⟨by rfl, rfl⟩) hcum ?_
          try simp only [Act.put, List.setIfInBounds_toArray, List.set_cons_zero, List.set_cons_succ]
          refine wpAnyH_take (i := 4) (oi := { dst := some 45, op := Op.load 23 (Operand.tmp 3), type := 23, pos := "spot.go:57", after := #[{ on := 2, ground := Ground.guard }], guard := some (2, false) }) (v := undef) rfl (by kernel_rfl) (by kernel_rfl) (by kernel_rfl) (fun _ _ _ h => onlyEnd_panic h) (Or.inr ⟨by rfl, rfl⟩) hcum ?_
          try simp only [Act.put, List.setIfInBounds_toArray, List.set_cons_zero, List.set_cons_succ]
          refine wpAnyH_take (i := 5) (oi := { dst := some 46, op := Op.call { callee := Callee.value (Operand.func 25), args := #[Operand.tmp 44, Operand.tmp 45], argTypes := #[23, 23] }, type := 34, pos := "spot.go:57", after := #[{ on := 3, ground := Ground.data }, { on := 4, ground := Ground.data }, { on := 2, ground := Ground.chain }, { on := 2, ground := Ground.guard }], guard := some (2, false) }) (v := undef) rfl (by kernel_rfl) (by kernel_rfl) (by kernel_rfl) (fun _ _ _ h => onlyEnd_panic h) (Or.inr ⟨by rfl, rfl⟩) hcum ?_
          try simp only [Act.put, List.setIfInBounds_toArray, List.set_cons_zero, List.set_cons_succ]
          refine wpAnyH_take (i := 6) (oi := { dst := some 47, op := Op.call { callee := Callee.builtin Builtin.len, args := #[Operand.tmp 46], argTypes := #[34] }, type := 3, pos := "spot.go:57", after := #[{ on := 5, ground := Ground.data }, { on := 2, ground := Ground.guard }], guard := some (2, false) }) (v := undef) rfl (by kernel_rfl) (by kernel_rfl) (by kernel_rfl) (fun _ _ _ h => onlyEnd_panic h) (Or.inr ⟨by rfl, rfl⟩) hcum ?_
          try simp only [Act.put, List.setIfInBounds_toArray, List.set_cons_zero, List.set_cons_succ]
          refine wpAnyH_take (i := 7) (oi := { dst := some 48, op := Op.fieldAddr 29 (Operand.tmp 2) 1, type := 0, pos := "spot.go:57", after := #[{ on := 2, ground := Ground.guard }], guard := some (2, false) }) (v := undef) rfl (by kernel_rfl) (by kernel_rfl) (by kernel_rfl) (fun _ _ _ h => onlyEnd_panic h) (Or.inr ⟨by rfl, rfl⟩) hcum ?_
          try simp only [Act.put, List.setIfInBounds_toArray, List.set_cons_zero, List.set_cons_succ]
          refine wpAnyH_take (i := 8) (oi := { dst := some 49, op := Op.load 3 (Operand.tmp 48), type := 3, pos := "spot.go:57", after := #[{ on := 7, ground := Ground.data }, { on := 2, ground := Ground.guard }], guard := some (2, false) }) (v := undef) rfl (by kernel_rfl) (by kernel_rfl) (by kernel_rfl) (fun _ _ _ h => onlyEnd_panic h) (Or.inr ⟨by rfl, rfl⟩) hcum ?_
          try simp only [Act.put, List.setIfInBounds_toArray, List.set_cons_zero, List.set_cons_succ]
          refine wpAnyH_take (i := 9) (oi := { dst := some 50, op := Op.binOp BinOp.quo 3 (Operand.tmp 49) (Operand.const (Value.int IntKind.i64 2)) 3, type := 3, pos := "spot.go:57", after := #[{ on := 8, ground := Ground.data }, { on := 2, ground := Ground.guard }], guard := some (2, false) }) (v := undef) rfl (by kernel_rfl) (by kernel_rfl) (by kernel_rfl) (fun _ _ _ h => onlyEnd_panic h) (Or.inr ⟨by rfl, rfl⟩) hcum ?_
          try simp only [Act.put, List.setIfInBounds_toArray, List.set_cons_zero, List.set_cons_succ]
          refine wpAnyH_take (i := 10) (oi := { dst := some 51, op := Op.binOp BinOp.gtr 3 (Operand.tmp 47) (Operand.tmp 50) 3, type := 4, pos := "spot.go:57", after := #[{ on := 6, ground := Ground.data }, { on := 9, ground := Ground.data }, { on := 2, ground := Ground.guard }], guard := some (2, false) }) (v := undef) rfl (by kernel_rfl) (by kernel_rfl) (by kernel_rfl) (fun _ _ _ h => onlyEnd_panic h) (Or.inr ⟨by rfl, rfl⟩) hcum ?_
          try simp only [Act.put, List.setIfInBounds_toArray, List.set_cons_zero, List.set_cons_succ]
          refine wpAnyH_take (i := 11) (oi := { dst := some 52, op := Op.pick (Operand.tmp 43) (Operand.const (Value.bool true)) (Operand.tmp 51), type := 4, pos := "spot.go:57", after := #[{ on := 2, ground := Ground.data }, { on := 10, ground := Ground.data }], guard := none }) (v := ?_) rfl (by kernel_rfl) (by kernel_rfl) (by kernel_rfl) (fun _ _ _ h => onlyEnd_panic h) (Or.inl ⟨by rfl, fun W' hW' => ?_⟩) hcum ?_
          rotate_left 1
          · go_simp
            try rfl
          try simp only [Act.put, List.setIfInBounds_toArray, List.set_cons_zero, List.set_cons_succ]
          refine wpAnyH_done (by kernel_rfl) ⟨rfl, ?_⟩ _
          have HC := Lib.hid hcum
          clear hcum
          gi_wp2
          have hk := HKV.out.trans (Kept.of_below HC.out)
          exact ⟨keepsOthers_of hk (HTW.out.cell (i := 0) (by omega)).1, (HXV.out.below HC.out), ⟨fun y hy => (List.mem_append.1 hy).elim (HMISS.out y) (fun e => by simp at e; subst e; exact HMS.out), ⟨_, (HTV.out.below HC.out)⟩, HKW.out.trans hk⟩⟩
  case done =>
    rintro xs W rfl ⟨hm, ⟨T, hT⟩, hk⟩ hD
    have hF := miss_all (l := l) (Z := Z) (M := M) HNN.out (by rw [← HM2.out]; exact hm)
    have HF := Lib.hid hF
    have HK := Lib.hid hk
    have p2 := hk.cell_eq P2.out e2.2.2.1
    have f2 := (hk.frozen (d := ⟨bR, 0, none⟩) e1.2.2.1 e2.2.2.1).trans F2.out
    have P2W := Lib.hid p2
    clear hm hF hk hT
    go_wp2_with fail
    rw [Exit.noGoto_ret]
    have hK1 := (KeepsOthers.setCell W ⟨bR, 0, none⟩ (.slice none 0 0)).same _ _ hD rfl
    refine ⟨by simp, .inl ⟨_, _, rfl, run_takeDeferred hK1, ?_⟩⟩
    have hc : (W.setCell ⟨bR, 0, none⟩ (.slice none 0 0)).cell? ⟨bR, 0, none⟩ = some (.slice none 0 0) := World.cell?_setCell_same' _ _ _ (by rw [P2W.out]; rfl)
    have hc1 := cell_kept hc (grownBy_putObj' _ W0.heap.size (.deferred none)) (fun r e => by cases e; exact ⟨_, hK1, rfl⟩)
    have hbe := (HB0.out.trans (HK.out.below e3 (fun k hk e => by omega))).setCell (p := ⟨bR, 0, none⟩) (by dsimp only; omega) (.slice none 0 0)
    refine ⟨.slice none 0 0, ?_, _, rfl, by rw [HF.out]; rfl, hbe.trans (belowK_b (w := W0) e3 _ _ _ _ (Nat.le_refl _) hK1 rfl rfl)⟩
    simp [results, Try.f27, go_sem, hc1]
  case stop =>
    rintro pre W hpre ⟨⟨p, x, c, r, rfl, h2, h3, h4, h5⟩, hk⟩ hD
    have hF := hit_one (l := l) (Z := Z) (M := M) HNN.out (by rw [← HM2.out]; exact hpre) h2 h3
    have HF := Lib.hid hF
    have HK := Lib.hid hk
    have HR := Lib.hid h5
    have P2W := Lib.hid h4
    clear hF hk h2 h3 h5
    gi_wp2
    rw [Exit.noGoto_ret]
    refine ⟨by simp, .inl ⟨_, _, rfl, run_takeDeferred hD, ?_⟩⟩
    have hc1 := cell_kept P2W.out (grownBy_putObj' _ W0.heap.size (.deferred none)) (fun r e => by cases e; exact ⟨_, hD, rfl⟩)
    have hbe := HB0.out.trans (HK.out.below e3 (fun k hk e => by omega))
    have hr := ownsRow_putObj HR.out (.deferred none) hD rfl
    refine ⟨r, ?_, _, rfl, by rw [HF.out]; exact hr.mono (by omega), hbe.trans (belowK_b (w := W0) e3 _ _ _ _ (Nat.le_refl _) hD rfl rfl)⟩
    simp [results, Try.f27, go_sem, hc1]
end Go.Proofs.Ytijcmdcjjcemfaa
