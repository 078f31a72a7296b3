/-
  The law FnExactNewSystem: the join. Conditions: none.
-/
import Derived.Test.YtfjdfbdiichhdaaT4
import Derived.Test.YtfjdfbdiichhdaaJ1
import Derived.Test.YtfjdfbdiichhdaaRows
import Derived.JoinedOf
import Derived.JoinedAt
import Derived.JoinedStill
import Derived.Seven
import Derived.ProofKit
namespace Go.Proofs.Ytfjdfbdiichhdaa
open Go Ai Go.ChangeShapes Go.WideShapes Go.ChangeAt Go.RowKit
set_option maxRecDepth 100000

theorem ownk : ownKnob Try.prog.godebug = none := by kernel_rfl
theorem laid : laidOutB Try.prog = true := by kernel_rfl
theorem und3 : Try.prog.underlying 3 = some (.int .i64) := by kernel_rfl
theorem und4 : Try.prog.underlying 4 = some .bool := by kernel_rfl
theorem par4 : Try.f4.params = #[3] := by kernel_rfl

theorem l4_lifted (os : Os) (started : os.Started) (H : Type) (enc : TypeId × Value → H) (F0 : Stop.Interp) :
    ReturnsInHanded {} Try.checked os 4 .any ((Rows.OpenSpec.upto Rows.fnExactNewSystemSpec).pre6 enc Try.prog Try.f4 Rows.fnExactNewSystemUptoRow.domain false) (((Rows.OpenSpec.upto Rows.fnExactNewSystemSpec).at F0).post enc Try.prog Try.f4 false Rows.fnExactNewSystemUptoRow.fresh Rows.fnExactNewSystemUptoRow.handsOn Rows.fnExactNewSystemUptoRow.again) := by
  refine returnsInHanded_of_cond (C := Try.checked) (s := Rows.OpenSpec.upto Rows.fnExactNewSystemSpec) (k := Rows.uptoSmall) rfl ownk started (by kernel_rfl) fg4
    (OpenSpec.witness (enc := enc) (C := Try.checked) (s := Rows.OpenSpec.upto Rows.fnExactNewSystemSpec) (k := Rows.uptoSmall) rfl false ⟨#[], #[.int .i64 0], []⟩ 8 (by kernel_rfl) (by kernel_rfl) (by kernel_rfl)
      (x := ([.lit (.int .i64 0)], [], [])) (by kernel_rfl) (by kernel_rfl) (by kernel_rfl)) ?_
  intro W base args ds gs before hval hW _ _ _
  have hW' := hW
  obtain ⟨p, q, hA, hV, rfl, hfz, hnd⟩ := hW
  have hA : DataW.TrodAll enc Try.prog W 0 (fun _ => true) true Try.f4.params.toList args.toList ds p := hA
  have hval : ∀ (j : Nat) t v, Try.f4.params[j]? = some t → args[j]? = some v → Value.okWide Try.prog W .any base t v := hval
  rw [par4] at hA hval
  obtain ⟨v, d, rfl, rfl, hd⟩ := trodAll_one hA
  obtain ⟨n, rfl, rfl, rfl, hw⟩ := open_int und3 (hval 0 3 v rfl rfl) hd
  have hgs : gs = [] := by cases gs with | nil => rfl | cons _ _ => exact hV.elim
  subst hgs
  refine (c4 (fun b => b < W.heap.size) W [.int .i64 n] [(false, [.i .i64 n])] [(true, .b (r4_0 n))] (fun _ h => h) ⟨⟨.i _ _ _, trivial⟩, trivial⟩ rfl rfl rfl).mono fun e W' ⟨val, q', he, O⟩ => ?_
  subst he
  refine ⟨val, rfl, ?_⟩
  have hval : val = .bool true := by
    obtain ⟨vals, rfl, hv⟩ := O.res
    rw [law4] at hv
    match vals, hv with
    | [u], hv =>
      have hu : DR q'.S q'.lab q'.w none u (.b true) := hv.1.1
      cases hu
      rfl
    | [], hv => exact hv.elim
    | _ :: _ :: _, hv => exact hv.2.elim
  subst hval
  exact post_true laid (fun t ht => by rw [par4] at ht; simp at ht; subst ht; exact ⟨by kernel_rfl, of_decide_eq_true (by kernel_rfl)⟩) (tb := 4) (by kernel_rfl) und4 rfl rfl rfl rfl hW' ⟨O.os, O.tape, O.output, O.size, O.old⟩

theorem fnExactNewSystem_holds : Rows.FnExactNewSystemUptoSaid :=
  OpenClaim.holds_of_cond 4 Try.f4 rfl rfl rfl rfl rfl rfl rfl ⟨rfl, rfl, rfl, rfl, rfl⟩ rfl rfl rfl rfl rfl (by kernel_rfl) fg4 (by kernel_rfl)
    (of_decide_eq_true (by kernel_rfl)) (by unfold Func.isWrapper; rw [if_neg (by decide +kernel)]; exact ⟨rfl, rfl⟩)
    (fun os started H enc _ F0 => l4_lifted os started H enc F0)
#print axioms fnExactNewSystem_holds
end Go.Proofs.Ytfjdfbdiichhdaa
