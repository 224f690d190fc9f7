/- A region that draws its order, in a round of a range over a function (or anywhere at the wide fence): carried over from the plain calculus. -/
import Derived.Deep.RegionHeld3
import Derived.OrdersIn
import Derived.RangeFuncCalls
namespace Go.Proofs.Ytbkicepkkcambaa
open Go.RowKit
set_option linter.unusedVariables false
set_option linter.unusedSimpArgs false
set_option linter.unusedSimpArgs false

/-- Q at the way on alone. -/
def Only (Q : Exit → Act → World → Prop) : Exit → Act → World → Prop
  | .normal, a, w => Q .normal a w
  | _, _, _ => False
theorem only_keeps {Q : Exit → Act → World → Prop} : ¬ LetsOut (Only Q) := fun ⟨_, _, h⟩ => h
theorem only_here {Q : Exit → Act → World → Prop} {a : Act} {w : World} (h : Q .normal a w) : Only Q .normal a w := h
/-- No operation of the region is a defer statement. -/
def Undeferred (ops : Array Oper) : Bool := ops.all fun o => match o.op with | .defer _ => false | _ => true
theorem undeferred_at {ops : Array Oper} (h : Undeferred ops = true) {i : Nat} {o : Oper} (ho : ops[i]? = some o) (c : Call) : o.op ≠ .defer c := by
  intro e
  obtain ⟨hi, rfl⟩ := Array.getElem?_eq_some_iff.1 ho
  have := (Array.all_eq_true.1 h) i hi
  rw [e] at this
  cases this

section
variable {n : Nat} {P : Program} {ops : Array Oper} {Q : Exit → Act → World → Prop} {md : Region.Mode} {ro : Option Nat}
theorem upon_in {o : Oper} {a : Act} {K : Act → World → Prop} {F : Fence} (hF : F = Fence.wide ∨ ∃ l, F = Fence.wide.inRound l) : ∀ r : Result Next, o.upon P a K (Only Q) r → o.uponIn F n P a K Q r
  | .ok (.value v) w', h => h
  | .ok .skip w', h => h
  | .ok (.defer d) w', h => h
  | .ok (.enter f args) w', h => by
    have hd : F.depth = none := by rcases hF with rfl | ⟨l, rfl⟩ <;> rfl
    refine ⟨fun h => (by rw [hd] at h; cases h), ?_⟩
    rw [Oper.upon_enter] at h
    have h2 : ∀ {R : Ending → World → Prop}, Calls P f args w' R → CallsIn F (n - 1) P f args w' R := fun h => by
      rcases hF with rfl | ⟨l, rfl⟩
      · exact callsIn_wide.2 h
      · exact CallsIn.inRound l (callsIn_wide.2 h)
    refine (h2 h).mono ?_
    intro e w'' he
    cases e with
    | returned v => exact he
    | panicked c => exact (he : False).elim
    | outgrown => exact absurd he only_keeps
  | .ok (.row row args) w', h => by
    have hd : F.depth = none := by rcases hF with rfl | ⟨l, rfl⟩ <;> rfl
    refine ⟨fun h => (by rw [hd] at h; cases h), fun c cs _ => ?_⟩
    obtain ⟨v, w'', r, s⟩ := h c cs
    refine ⟨v, w'', r, ?_⟩
    rcases hF with rfl | ⟨l, rfl⟩
    · exact stepsIn_wide.2 s
    · exact (stepsIn_wide (P := P)).2 s
  | .halt (.panic v) w', h => (h : False).elim
theorem wpAnyIn_of_wpAny {F : Fence} (hF : F = Fence.wide ∨ ∃ l, F = Fence.wide.inRound l) (hd : Undeferred ops = true) : ∀ (fuel : Nat) (listed : Array Bool) (a : Act) (w : World), wpAny P md ops (Only Q) fuel listed a w → wpAnyIn F n P md ops Q fuel listed a w
  | 0, _, _, _, h => ⟨h.1, h.2⟩
  | fuel + 1, listed, a, w, h => by
    have hf : ∀ f, F.fn f := fun f => by rcases hF with rfl | ⟨l, rfl⟩ <;> trivial
    refine ⟨fun hr => h.1 hr, fun i hi => ?_⟩
    have h2 := h.2 i hi
    unfold wpOp at h2
    unfold wpOpIn
    cases ho : ops[i]? with
    | none =>
      rw [ho] at h2
      exact wpAnyIn_of_wpAny hF hd fuel _ _ _ h2
    | some o =>
      rw [ho] at h2
      dsimp only at h2 ⊢
      split
      · rename_i hw
        rw [if_pos hw] at h2
        rcases h2 with h2 | ⟨_, h2⟩
        · refine ⟨fun f _ => hf f, ?_⟩
          rw [Oper.semAt_eq _ _ _ (fun c => undeferred_at hd ho c)]
          exact upon_in hF _ (Oper.wp_mono (fun a w h => wpAnyIn_of_wpAny hF hd fuel _ _ _ h) h2)
        · exact absurd h2 only_keeps
      · rename_i hw
        rw [if_neg hw] at h2
        exact ⟨fun f _ => hf f, wpAnyIn_of_wpAny hF hd fuel _ _ _ h2⟩
theorem wpIn_region_held {S : World → Prop} {F : Fence} (hF : F = Fence.wide ∨ ∃ l, F = Fence.wide.inRound l) {id : Nat} {a : Act} {w : World} (hm : P.follows .mixedOrders = true) (hd : Undeferred ops = true) (hS : S w.drew)
    (h : S w.drew → wpAnyH P .any ops (Only Q) S ops.size (Array.replicate ops.size false) a w.drew) : (Code.region id ops true).wpIn F n P Q a w :=
  wpIn_region_any hm (wpAnyIn_of_wpAny hF hd _ _ _ _ (wpAny_of_held _ _ _ _ (h hS)))
end

end Go.Proofs.Ytbkicepkkcambaa
