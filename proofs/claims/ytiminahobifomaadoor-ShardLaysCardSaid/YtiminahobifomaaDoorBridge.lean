/- A drawn region within a round of a range over a function, walked as anywhere. -/
import Derived.Test.YtiminahobifomaaDoorMatR
import Derived.OrdersIn
import Derived.OrdersHeld
import Derived.Deep.RegionHeld
namespace Go.Proofs.YtiminahobifomaaDoor
open Go.ChangeShapes Go.WideShapes Go.ChangeAt Go.RowKit Go.Joins Go.Shelf
set_option linter.unusedVariables false
set_option linter.unusedSimpArgs false

/-- A region's end, and no other way out. -/
def OnlyEnd (M : Act → World → Prop) : Exit → Act → World → Prop := fun e a w => e = .normal ∧ M a w
theorem onlyEnd_out {M : Act → World → Prop} (h : LetsOut (OnlyEnd M)) : False := by
  obtain ⟨a, w, h, _⟩ := h
  cases h

theorem onlyEnd_panic {M : Act → World → Prop} {c : _} {a a' : Act} {w : World} (h : OnlyEnd M (.panic c) a w) : OnlyEnd M (.panic c) a' w := by cases h.1
theorem rowsIn_of {l m : Nat} {P : Program} {row : String} {args : Array Value} {w : World} {R : Value → World → Prop} (h : Rows P row args w R) : RowsIn (Fence.wide.inRound l) m P row args w R :=
  fun c cs _ => let ⟨v, w', r, s⟩ := h c cs; ⟨v, w', r, stepsIn_wide.2 s⟩

theorem wpOpIn_of {l n : Nat} {P : Program} {ops : Array Oper} {M : Act → World → Prop} {Q : Exit → Act → World → Prop} (hdef : ∀ (i : Nat) (o : Oper), ops[i]? = some o → ∀ c : Call, o.op ≠ Op.defer c) (hn : 1 ≤ n)
    {i : Nat} {K K' : Act → World → Prop} {a : Act} {w : World} (hK : ∀ a w, K a w → K' a w) (h : wpOp P ops (OnlyEnd M) i K a w) : wpOpIn (Fence.wide.inRound l) n P ops Q i K' a w := by
  unfold wpOp at h
  unfold wpOpIn
  split
  · rename_i ho
    rw [ho] at h
    exact hK _ _ h
  · rename_i o ho
    rw [ho] at h
    simp only at h
    split
    · rename_i hw
      rw [if_pos hw] at h
      rcases h with h | h
      · unfold Oper.wp at h
        refine ⟨fun f _ => trivial, ?_⟩
        have hs : Oper.semAt (Fence.wide.inRound l).round a.eval o = execOp a.eval o := Oper.semAt_some l a.eval o (hdef i o ho)
        rw [hs]
        generalize (execOp a.eval o).run P w = r at h
        cases r with
        | ok x w' =>
          cases x <;> simp only [Oper.upon] at h <;> simp only [Oper.uponIn]
          case value v => exact hK _ _ h
          case skip => exact hK _ _ h
          case defer d => exact hK _ _ h
          case enter f args =>
            refine ⟨fun _ => hn, (CallsIn.inRound l (callsIn_wide.2 h)).mono ?_⟩
            intro e w'' he
            cases e with
            | returned v => exact hK _ _ he
            | panicked chain => cases he.1
            | outgrown => exact (onlyEnd_out he).elim
          case row r args => exact ⟨fun _ => hn, RowsIn.mono (rowsIn_of h) (fun _ _ h' => hK _ _ h')⟩
        | halt x w' =>
          cases x <;> simp only [Oper.upon] at h <;> simp only [Oper.uponIn]
          case panic v => cases h.1
      · exact (onlyEnd_out h.2).elim
    · rename_i hw
      rw [if_neg hw] at h
      exact ⟨fun f _ => trivial, hK _ _ h⟩

theorem wpAnyIn_of {l n : Nat} {P : Program} {ops : Array Oper} {md : Region.Mode} {M : Act → World → Prop} {Q : Exit → Act → World → Prop} (hdef : ∀ (i : Nat) (o : Oper), ops[i]? = some o → ∀ c : Call, o.op ≠ Op.defer c) (hn : 1 ≤ n) (hQ : ∀ a w, M a w → Q .normal a w) :
    ∀ (fuel : Nat) (listed : Array Bool) (a : Act) (w : World), wpAny P md ops (OnlyEnd M) fuel listed a w → wpAnyIn (Fence.wide.inRound l) n P md ops Q fuel listed a w
  | 0, _, _, _, h => ⟨h.1, hQ _ _ h.2.2⟩
  | fuel + 1, listed, a, w, h => ⟨fun h0 => hQ _ _ (h.1 h0).2, fun i hi => wpOpIn_of hdef hn (fun a' w' h' => wpAnyIn_of hdef hn hQ fuel _ a' w' h') (h.2 i hi)⟩

def noDefer (ops : Array Oper) : Bool := ops.toList.all fun o => match o.op with | .defer _ => false | _ => true
theorem noDefer_of {ops : Array Oper} (h : noDefer ops = true) : ∀ (i : Nat) (o : Oper), ops[i]? = some o → ∀ c : Call, o.op ≠ Op.defer c := fun i o ho c e => by
  have hm : o ∈ ops.toList := by
    obtain ⟨hi, hx⟩ := Array.getElem?_eq_some_iff.1 ho
    rw [← hx]
    exact Array.getElem_mem_toList hi
  have := List.all_eq_true.1 h o hm
  simp only [e] at this
  cases this
end Go.Proofs.YtiminahobifomaaDoor
