/-
  The law FnExactFormatCheckpoint: the join. Conditions: none.
-/
import Derived.Test.YtfjdfbdiichhdaaC5
import Derived.Test.YtfjdfbdiichhdaaJ3
import Derived.JoinedOf
import Derived.JoinedAt
import Derived.JoinedStill
import Derived.Seven
import Derived.ProofKit
namespace Go.Proofs.Ytfjdfbdiichhdaa
open Go Ai Go.ChangeShapes Go.WideShapes Go.ChangeAt Go.RowKit
set_option maxRecDepth 100000

theorem ownk : ownKnob Try.prog.godebug = none := by kernel_rfl
theorem parW3 : Try.f5.params = #[27] := by kernel_rfl
def parsL3 : List (Bool × List RD) := [(true, [.sl .row, .i .i64, .sl .row, .sl .row, .sl .row, .sl .run, .i .i64, .i .i64, .i .i64, .i .i64, .sl .row])]

theorem sumS_le {s : Srt} (h : ((encSrt s).map (bN 1)).sum ≤ 1048576) : domS s = true := by
  have h1 : ∀ l : List Row, l.length ≤ bN 1 (.sl .row l) := fun l => by
    have : l.length ≤ (l.map fun e => ((enc .row e).map (bN 0)).sum).sum := len_le_of rfl fun _ _ _ => sum_pos 0 enc_ne
    simp only [bN]; omega
  have h2 : ∀ l : List (List Row), l.length + l.flatten.length ≤ bN 1 (.sl .run l) := fun l => by
    induction l with
    | nil => simp [bN]
    | cons a l ih =>
      simp only [bN, List.map_cons, List.sum_cons, List.length_cons, List.flatten_cons, List.length_append, enc, List.map_nil, List.sum_nil] at ih ⊢
      omega
  obtain ⟨q0, q1, q2, q3, q4, q5, q6, q7, q8, q9⟩ := s
  have a0 := h1 q0
  have a2 := h1 q2
  have a3 := h1 q3
  have a4 := h1 q4
  have a5 := h2 q5
  simp only [encSrt, List.map_cons, List.map_nil, List.sum_cons, List.sum_nil] at h
  refine domS_iff.2 ⟨?_, by unfold sumS; simp only; omega⟩
  simp only [lilS, lilRuns, Bool.and_eq_true, lil_iff, List.all_eq_true]
  refine ⟨⟨⟨⟨?_, ?_⟩, ?_⟩, ?_⟩, ?_, ?_⟩ <;> omega

theorem idom_wf {n : Int} (h : (Lit.int .i64 n).wf = true) : idom n = true := by
  have e1 : IntKind.i64.min = -9223372036854775808 := rfl
  have e2 : IntKind.i64.max = 9223372036854775807 := rfl
  simp only [Lit.wf, e1, e2, Bool.and_eq_true, decide_eq_true_eq] at h
  exact idom_iff.2 (by omega)
theorem l3_run (gs : List (Bool × List DV)) (h : Each IsPar parsL3 gs) (hk : ∀ n, (gs.flatMap (·.2)).all (okN n) = true) (hb : ∀ n, ((gs.flatMap (·.2)).map (bN n)).sum ≤ 1048576) :
    F_w_FnExactFormatCheckpoint.dom (gs.flatMap (·.2)) = true ∧ F_w_FnExactFormatCheckpoint.run (gs.flatMap (·.2)) = some [(true, .b true)] := by
  replace h := h.inv; obtain ⟨⟨ag, ds⟩, gs, rfl, ⟨he, h⟩, h'⟩ := h
  have h' := h'.inv_nil; subst h'
  replace h := h.inv; obtain ⟨_, _, rfl, ⟨q0, rfl⟩, h⟩ := h
  replace h := h.inv; obtain ⟨_, _, rfl, ⟨q1, rfl⟩, h⟩ := h
  replace h := h.inv; obtain ⟨_, _, rfl, ⟨q2, rfl⟩, h⟩ := h
  replace h := h.inv; obtain ⟨_, _, rfl, ⟨q3, rfl⟩, h⟩ := h
  replace h := h.inv; obtain ⟨_, _, rfl, ⟨q4, rfl⟩, h⟩ := h
  replace h := h.inv; obtain ⟨_, _, rfl, ⟨q5, rfl⟩, h⟩ := h
  replace h := h.inv; obtain ⟨_, _, rfl, ⟨q6, rfl⟩, h⟩ := h
  replace h := h.inv; obtain ⟨_, _, rfl, ⟨q7, rfl⟩, h⟩ := h
  replace h := h.inv; obtain ⟨_, _, rfl, ⟨q8, rfl⟩, h⟩ := h
  replace h := h.inv; obtain ⟨_, _, rfl, ⟨q9, rfl⟩, h⟩ := h
  replace h := h.inv; obtain ⟨_, _, rfl, ⟨e, rfl⟩, h⟩ := h
  cases h.inv_nil
  have hb1 := hb 1
  simp only [List.flatMap_cons, List.flatMap_nil, List.append_nil] at hb1 ⊢
  have h1 : domS ⟨q0, q1, q2, q3, q4, q5, q6, q7, q8, q9⟩ = true := sumS_le (by
    simp only [encSrt, List.map_cons, List.map_nil, List.sum_cons, List.sum_nil] at hb1 ⊢
    omega)
  have h2 : lil e.length = true := by
    have : e.length ≤ (e.map fun e => ((enc .row e).map (bN 0)).sum).sum := len_le_of rfl fun _ _ _ => sum_pos 0 enc_ne
    simp only [List.map_cons, List.map_nil, List.sum_cons, List.sum_nil, bN] at hb1
    exact lil_iff.2 (by omega)
  have h3 : idom q9 = true := by
    have := hk 0
    simp only [List.flatMap_cons, List.flatMap_nil, List.append_nil, List.all_cons, Bool.and_eq_true, okN] at this
    exact idom_wf this.2.2.2.2.2.2.2.2.2.1
  have h4 : mid q5.length = true := by
    have : q5.length ≤ (q5.map fun e => ((enc .run e).map (bN 0)).sum).sum := len_le_of rfl fun _ _ _ => sum_pos 0 enc_ne
    simp only [List.map_cons, List.map_nil, List.sum_cons, List.sum_nil, bN] at hb1
    exact mid_iff.2 (by omega)
  have h5 : domF ⟨q0, q1, q2, q3, q4, q5, q6, q7, q8, q9⟩ = true := by unfold domF; rw [h1, h3, h4]; rfl
  exact ⟨by show (domF ⟨q0, q1, q2, q3, q4, q5, q6, q7, q8, q9⟩ && lil e.length) = true; rw [h5, h2]; rfl, rfl⟩

theorem l3_lifted (os : Os) (started : os.Started) (H : Type) (enc : TypeId × Value → H) (F0 : Stop.Interp) :
    ReturnsInHanded {} Try.checked os 5 .any ((Rows.OpenSpec.upto Rows.fnExactFormatCheckpointSpec).pre6 enc Try.prog Try.f5 Rows.fnExactFormatCheckpointUptoRow.domain false) (((Rows.OpenSpec.upto Rows.fnExactFormatCheckpointSpec).at F0).post enc Try.prog Try.f5 false Rows.fnExactFormatCheckpointUptoRow.fresh Rows.fnExactFormatCheckpointUptoRow.handsOn Rows.fnExactFormatCheckpointUptoRow.again) := by
  refine returnsInHanded_of_cond (C := Try.checked) (s := Rows.OpenSpec.upto Rows.fnExactFormatCheckpointSpec) (k := Rows.uptoSmall) rfl ownk started (by kernel_rfl) fg_w_FnExactFormatCheckpoint
    (OpenSpec.witness (enc := enc) (C := Try.checked) (s := Rows.OpenSpec.upto Rows.fnExactFormatCheckpointSpec) (k := Rows.uptoSmall) rfl false
      ⟨#[], #[.agg #[.slice none 0 0, .int .i64 0, .slice none 0 0, .slice none 0 0, .slice none 0 0, .slice none 0 0, .int .i64 0, .int .i64 0, .int .i64 0, .int .i64 0, .slice none 0 0]], []⟩ 8 (by kernel_rfl) (by kernel_rfl) (by kernel_rfl)
      (x := ([.agg [.agg [.nil, .lit (.int .i64 0), .nil, .nil, .nil, .nil, .lit (.int .i64 0), .lit (.int .i64 0), .lit (.int .i64 0), .lit (.int .i64 0)], .nil]], [], [])) (by kernel_rfl) (by kernel_rfl) (by kernel_rfl)) ?_
  intro W base args ds gs before hval hW c1 c2 c3
  exact calls_post c_w_FnExactFormatCheckpoint rfl rfl (pars := parsL3) (by rw [parW3]; exact ⟨by show parB Try.prog 27 (true, [.sl .row, .i .i64, .sl .row, .sl .row, .sl .row, .sl .run, .i .i64, .i .i64, .i .i64, .i .i64, .sl .row]) = true; kernel_rfl, trivial⟩) (by kernel_rfl) (by kernel_rfl) rfl
    (fun hl => by match ds, hl with | [d], _ => exact ⟨rfl, rfl, rfl⟩) l3_run hval hW c2

theorem fnExactFormatCheckpoint_holds : Rows.FnExactFormatCheckpointUptoSaid :=
  OpenClaim.holds_of_cond 5 Try.f5 rfl rfl rfl rfl rfl rfl rfl ⟨rfl, rfl, rfl, rfl, rfl⟩ rfl rfl rfl rfl rfl (by kernel_rfl) fg_w_FnExactFormatCheckpoint (by kernel_rfl)
    (of_decide_eq_true (by kernel_rfl)) (by unfold Func.isWrapper; rw [if_neg (by decide +kernel)]; exact ⟨rfl, rfl⟩)
    (fun os started H enc _ F0 => l3_lifted os started H enc F0)
#print axioms fnExactFormatCheckpoint_holds
end Go.Proofs.Ytfjdfbdiichhdaa
