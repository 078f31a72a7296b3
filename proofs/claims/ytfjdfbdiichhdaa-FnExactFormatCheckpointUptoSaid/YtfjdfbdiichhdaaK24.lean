/-
  The abstract interpreter, twenty-fourth part: the functions that an environment names. Conditions: none beside the contracts.
-/
import Derived.Test.YtfjdfbdiichhdaaK23
namespace Go.Proofs.Ytfjdfbdiichhdaa
open Go
namespace Ai

def FnsL (P : Program) (l : List (Nat × (Key → List AV → RM))) : Prop :=
  ∀ f rf, lk f l = some rf → FnOK P f rf ∧ ∃ fn, P.funcs[f]? = some fn ∧ (fn.name == "runtime.NumGoroutine") = false ∧ fn.body.isNone = false
theorem FnsL.nil {P : Program} : FnsL P [] := fun f rf h => by simp [lk] at h
theorem FnsL.cons {P : Program} {f : FuncId} {rf : Key → List AV → RM} {fn : Func} {l : List (Nat × (Key → List AV → RM))} (hC : FnOK P f rf) (hf : P.funcs[f]? = some fn) (h1 : (fn.name == "runtime.NumGoroutine") = false) (h2 : fn.body.isNone = false) (h : FnsL P l) :
    FnsL P ((f, rf) :: l) := fun g rg hg => by
  simp only [lk] at hg
  cases hb : Nat.beq f g with
  | true =>
    have := Nat.eq_of_beq_eq_true hb
    subst this
    simp only [hb, cond_true, Option.some.injEq] at hg
    subst hg
    exact ⟨hC, fn, hf, h1, h2⟩
  | false => simp only [hb, cond_false] at hg; exact h g rg hg

end Ai
end Go.Proofs.Ytfjdfbdiichhdaa
