/- Which digest letters are: what the page says, plainly; the program's Take, walked. -/
import Derived.Test.YtnpngkbcfkolnaaHexA
import Derived.BigQuiet
namespace Go.Proofs.Ytnpngkbcfkolnaa
open Go.ChangeShapes Go.WideShapes Go.ChangeAt Go.RowKit Go.Joins
set_option linter.unusedVariables false
set_option linter.unusedSimpArgs false
attribute [local go_sem ↓] Go.wp_at_zero Go.wp_at_succ

def goodN (c : Nat) : Bool := decide (48 ≤ c ∧ c ≤ 57) || decide (97 ≤ c ∧ c ≤ 102)
def vN (c : Nat) : Nat := if c ≤ 57 then c - 48 else c - 87
def idxN (c : Nat) : Int := if goodN c then (vN c : Int) else -1
def chN (s : ByteArray) (i : Nat) : Nat := (s.data.toList.getD i 0).toNat
theorem chN_eq {s : ByteArray} {i : Nat} (h : i < s.size) : chN s i = (s[i]'h).toNat := by
  rw [chN, List.getD, List.getElem?_eq_getElem (by simpa using h)]; rfl
theorem chN_lt (s : ByteArray) (i : Nat) : chN s i < 256 := UInt8.toNat_lt _
theorem vN_lt {c : Nat} (h : goodN c = true) : vN c < 16 := by simp [goodN] at h; unfold vN; split <;> omega
/-- Whether letters are a digest. -/
def okB (s : ByteArray) : Bool := decide (s.size = 64) && (List.range 64).all fun i => goodN (chN s i)
def pairN (s : ByteArray) (j : Nat) : Nat := vN (chN s (2 * j)) * 16 + vN (chN s (2 * j + 1))
def unhexL (s : ByteArray) (k : Nat) : List Nat := (List.range k).map (pairN s)
def unhexS (s : ByteArray) : ByteArray := strOf8 (unhexL s 32)
def takenS (s : ByteArray) : ByteArray := if okB s then unhexS s else ⟨#[]⟩
def takenE (s : ByteArray) : Int := if okB s then 0 else 7
theorem unhexL_succ (s : ByteArray) (k : Nat) : unhexL s (k + 1) = unhexL s k ++ [pairN s k] := by simp [unhexL, List.range_succ]
theorem unhexL_length (s : ByteArray) (k : Nat) : (unhexL s k).length = k := by simp [unhexL]
theorem okB_bad {s : ByteArray} {i : Nat} (hi : i < 64) (h : goodN (chN s i) = false) : okB s = false := by
  cases ho : okB s
  · rfl
  · simp only [okB, Bool.and_eq_true, List.all_eq_true, List.mem_range] at ho
    rw [← h, ho.2 i hi]
theorem okB_size {s : ByteArray} (h : ¬ s.size = 64) : okB s = false := by simp [okB, h]
theorem okB_good {s : ByteArray} (hs : s.size = 64) (h : ∀ i, i < 64 → goodN (chN s i) = true) : okB s = true := by
  simp only [okB, Bool.and_eq_true, List.all_eq_true, List.mem_range]
  exact ⟨decide_eq_true hs, h⟩
theorem taken_no {s : ByteArray} (h : okB s = false) : takenS s = ⟨#[]⟩ ∧ takenE s = 7 := by simp [takenS, takenE, h]
theorem taken_yes {s : ByteArray} (h : okB s = true) : takenS s = unhexS s ∧ takenE s = 0 := by simp [takenS, takenE, h]

theorem idx_all : ∀ c : Nat, c < 256 → Lib.indexByte [48, 49, 50, 51, 52, 53, 54, 55, 56, 57, 97, 98, 99, 100, 101, 102] ((c : Int).toNat.toUInt8) = idxN c := by decide +kernel
theorem idx_any (c : Nat) (hc : c < 256) (w : World) :
    Calls Try.prog 31 #[.string ⟨#[48, 49, 50, 51, 52, 53, 54, 55, 56, 57, 97, 98, 99, 100, 101, 102]⟩, .int .u8 (c : Int)] w fun e w' => e = .returned (.int .i64 (idxN c)) ∧ w = w' := by
  refine (sh_strings_IndexByte _ _ _).mono fun e w' ⟨he, hw⟩ => ⟨?_, hw.symm⟩
  rw [he, idx_all c hc]
theorem or16 {x y : Nat} (hx : x < 16) (hy : y < 16) : bits .or .i64 ((x : Int) * 16) (y : Int) = ((x * 16 + y : Nat) : Int) := by
  have e := bits_or_k .i64 (a := x * 16) (b := y) (by show _ < 2 ^ 64; omega) (by show _ < 2 ^ 64; omega)
  have h2 : x * 16 ||| y = x * 16 + y := by
    have := Nat.shiftLeft_add_eq_or_of_lt (b := y) (i := 4) hy x
    rw [Nat.shiftLeft_eq] at this
    exact this.symm
  rw [h2, IntWalk.i64_in _ (by omega)] at e
  rw [← e]; simp

theorem cell_one_new' (w : World) (a : Value) (t : TypeId) : ∀ j u, [a][j]? = some u → (w.alloc (.cells #[a] t)).cell? ((⟨w.heap.size, 0, none⟩ : Addr).add j) = some u := by
  intro j u hj
  rw [Go.WideShapes.add_plain, Nat.zero_add, cell_of_row _ _ _ _ _ _ (heap_alloc_new w _)]
  simpa using hj

set_option maxRecDepth 100000 in
set_option maxHeartbeats 2000000 in
theorem take_any (s : ByteArray) (w : World) (hs : s.size ≤ 1000000) :
    Calls Try.prog 23 #[.string s] w fun e w' => e = .returned (.tuple #[.string (takenS s), .int .i64 (takenE s)]) ∧ Below w.heap.size w w' := by
  obtain ⟨i0, hi, hz0, hz1, hz2⟩ := info_parts infoU8
  by_cases h64 : s.size = 64
  · have hne1 : ((s.size : Int) != 64) = false := by rw [h64]; rfl
    have hne2 : ((s.size : Int) == 64) = true := by rw [h64]; rfl
    have hs1 : 64 ≤ s.size := by omega
    have hs2 : s.size ≤ 64 := by omega
    have H64 := Lib.hid h64
    clear h64
    go_enter Try.func23, Try.ntmps23
    go_wp2_with fail
    go_loopw [4, 5] (fun v i wr => ∃ k : Nat, i = .int .i64 (2 * (k : Int)) ∧ k ≤ 32 ∧ wr.ownsRow w.heap.size 5 1 v (unhexL s k).length ((unhexL s k).map byV) ∧ Hid (∀ i, i < 2 * k → goodN (chN s i) = true) ∧ Below w.heap.size w wr) (fun _ i _ => 64 - (intOf i).toNat)
    case atStart => exact ⟨0, rfl, by omega, World.ownsRow_nil _ _ _ _, fun i hi => absurd hi (by omega), Below.refl _ _⟩
    case round =>
      obtain ⟨k, rfl, hk, hown, HG, hwr⟩ := hrel
      by_cases hlt : k < 32
      · have ha : 2 * k < s.size := by omega
        have hb : 2 * k + 1 < s.size := by omega
        obtain ⟨a, hca, hca2, ha256⟩ : ∃ a : Nat, (∀ h : 2 * k < s.size, (s[2 * k]'h).toNat = a) ∧ chN s (2 * k) = a ∧ a < 256 := ⟨chN s (2 * k), fun h => (chN_eq h).symm, rfl, chN_lt _ _⟩
        obtain ⟨b, hcb, hcb2, hb256⟩ : ∃ a : Nat, (∀ h : 2 * k + 1 < s.size, (s[2 * k + 1]'h).toNat = a) ∧ chN s (2 * k + 1) = a ∧ a < 256 := ⟨chN s (2 * k + 1), fun h => (chN_eq h).symm, rfl, chN_lt _ _⟩
        have HA := Lib.hid hca2
        have HB := Lib.hid hcb2
        have j0 : (0 : Int) ≤ 2 * (k : Int) := by omega
        have j1 : 2 * (k : Int) < (s.size : Int) := by omega
        have j2 : (0 : Int) ≤ 2 * (k : Int) + 1 := by omega
        have j3 : 2 * (k : Int) + 1 < (s.size : Int) := by omega
        have e1 : IntKind.i64.wrap (2 * (k : Int) + 1) = 2 * (k : Int) + 1 := by rw [IntWalk.i64_in _ (by omega)]
        have e2 : (2 * (k : Int)).toNat = 2 * k := by omega
        have e3 : (2 * (k : Int) + 1).toNat = 2 * k + 1 := by omega
        clear hca2 hcb2
        go_wp2_with fail
        go_quiet (first | (go_at_call 31; exact quiet_left (idx_any _ (by omega) _)))
        cases hga : goodN a
        · have eia : idxN a = -1 := by simp [idxN, hga]
          have hbad := okB_bad (s := s) (i := 2 * k) (by omega) (by rw [HA.out]; exact hga)
          obtain ⟨t1, t2⟩ := taken_no hbad
          clear hga hbad
          have hfin := below_drewN hwr nq
          go_wp2_with fail
          go_ret2
          exact ⟨by first | (rw [t1, t2]; done) | (rw [t1, t2]; rfl), hfin⟩
        · cases hgb : goodN b
          · have eia : idxN a = ((vN a : Nat) : Int) := by simp [idxN, hga]
            have eib : idxN b = -1 := by simp [idxN, hgb]
            have hbad := okB_bad (s := s) (i := 2 * k + 1) (by omega) (by rw [HB.out]; exact hgb)
            obtain ⟨t1, t2⟩ := taken_no hbad
            clear hga hgb hbad
            have hfin := below_drewN hwr nq
            go_wp2_with fail
            go_ret2
            exact ⟨by first | (rw [t1, t2]; done) | (rw [t1, t2]; rfl), hfin⟩
          · obtain ⟨x, hx⟩ : ∃ x, x = vN a := ⟨_, rfl⟩
            obtain ⟨y, hy⟩ : ∃ x, x = vN b := ⟨_, rfl⟩
            have eia : idxN a = (x : Int) := by simp [idxN, hga, hx]
            have eib : idxN b = (y : Int) := by simp [idxN, hgb, hy]
            have hx16 : x < 16 := by rw [hx]; exact vN_lt hga
            have hy16 : y < 16 := by rw [hy]; exact vN_lt hgb
            have eo := or16 hx16 hy16
            have hpr : pairN s k = x * 16 + y := by rw [pairN, HA.out, HB.out, hx, hy]
            have hug := unhexL_succ s k
            rw [hpr] at hug
            have HU := Lib.hid hug
            have HG2 : Hid (∀ i, i < 2 * (k + 1) → goodN (chN s i) = true) := fun i hi => by
              by_cases h1 : i < 2 * k
              · exact HG.out i h1
              · by_cases h2 : i = 2 * k
                · rw [h2, HA.out]; exact hga
                · rw [show i = 2 * k + 1 by omega, HB.out]; exact hgb
            have hll := unhexL_length s k
            have hlen : (unhexL s k).length ≤ 32 := by omega
            have hwd := below_drewN hwr nq
            have hown2 : (wr.drewN nq).ownsRow w.heap.size 5 1 _ (unhexL s k).length ((unhexL s k).map byV) := hown
            clear hga hgb hx hy hpr hug hll hown hwr HG
            generalize wr.drewN nq = wd at *
            obtain ⟨z, hzq⟩ : ∃ z, z = x * 16 + y := ⟨_, rfl⟩
            have hzz : z < 256 := by omega
            rw [← hzq] at eo HU
            clear hzq
            go_wp2_with (first
              | (at_builtin; refine wpList_append_own _ rfl _ _ 26 rfl w.heap.size 5 i0 (.int .u8 0) 1 1 Try.underlying26 hi hz0 hz1 hz2 rfl (by decide) _ _ _ rfl (hown2.alloc _) ⟨wd.heap.size, 0, none⟩ 1 1 [.int .u8 (z : Int)] rfl rfl ?c1 ?c2 ?c3 ?c4 ?c5 ?_)
              | go_in)
            case c1 => exact cell_one_new' _ _ _
            case c2 => intro u hu; simp at hu; subst hu; rfl
            case c3 => unfold maxLen; omega
            case c4 => omega
            case c5 => have := hwd.size; simp; omega
            all_goals
              intro v' w1 hown' hgrow _
              have hbx := append_below' hwd hown2 hgrow
              clear hown2 hgrow hwd
              go_wp2_with fail
              go_roundw
              case rel =>
                refine ⟨k + 1, by go_num, by omega, ?_, HG2, hbx⟩
                have e : [Value.int .u8 (z : Int)] = [z].map byV := rfl
                rw [e, ← List.map_append, ← HU.out] at hown'
                have e2 : (unhexL s k).length + 1 = (unhexL s (k + 1)).length := by rw [HU.out, List.length_append]; rfl
                rw [← e2]
                exact hown'
              case measure => simp [intOf]; omega
      · have hke : k = 32 := by omega
        rw [hke] at hown
        have hok := okB_good (s := s) H64.out (fun i hi => HG.out i (by omega))
        obtain ⟨t1, t2⟩ := taken_yes hok
        obtain ⟨gb, cap, rfl, hcells⟩ := own_bytes hown (by rw [unhexL_length]; omega)
        have hcv := convert_bytes (P := Try.prog) (w := wr) (b := gb) (off := 0) (cap := cap) (ns := unhexL s 32) Try.underlying26 Try.underlying5 Try.underlying9 hcells
        have T1 := Lib.hid t1
        have T2 := Lib.hid t2
        clear hke hown hcells hok t1 t2
        go_wp2_with fail
        go_ret2
        exact ⟨by rw [T1.out, T2.out]; rfl, hwr⟩
  · have hne1 : ((s.size : Int) != 64) = true := by rw [bne_iff_ne]; omega
    have hne2 : ((s.size : Int) == 64) = false := beq_eq_false_iff_ne.2 (by omega)
    obtain ⟨t1, t2⟩ := taken_no (okB_size h64)
    have T1 := Lib.hid t1
    have T2 := Lib.hid t2
    clear h64 t1 t2
    go_enter Try.func23, Try.ntmps23
    go_wp2_with fail
    go_ret2
    exact ⟨by rw [T1.out, T2.out]; rfl, Below.refl _ _⟩
end Go.Proofs.Ytnpngkbcfkolnaa
