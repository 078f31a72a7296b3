/-
  The law FnExactFormatCheckpoint: its code answers true. Conditions: none.
-/
import Derived.Test.YtfjdfbdiichhdaaC1
import Derived.Test.YtfjdfbdiichhdaaC4
namespace Go.Proofs.Ytfjdfbdiichhdaa
open Go Ai
set_option maxRecDepth 100000
def E_w_FnExactFormatCheckpoint (fuel : Nat) : Env := ⟨tys, [(7, callFn F_w_szCheckpoint), (9, callFn F_w_toCheckpoint), (11, callFn F_w_eqCheckpoint), (17, callFn F_s_FormatCheckpoint), (18, callFn F_i_FormatCheckpoint)], [], fuel, 27, 0⟩
theorem top_w_FnExactFormatCheckpoint (fuel : Nat) (p0_0 : List Row) (p0_1 : Int) (p0_2 : List Row) (p0_3 : List Row) (p0_4 : List Row) (p0_5 : List (List Row)) (p0_6 : Int) (p0_7 : Int) (p0_8 : Int) (p0_9 : Int) (p0_10 : List Row) : runF (E_w_FnExactFormatCheckpoint fuel) Try.f5 [.sl .row p0_0, .i .i64 p0_1, .sl .row p0_2, .sl .row p0_3, .sl .row p0_4, .sl .run p0_5, .i .i64 p0_6, .i .i64 p0_7, .i .i64 p0_8, .i .i64 p0_9, .sl .row p0_10] =
 cond (lilS ⟨p0_0, p0_1, p0_2, p0_3, p0_4, p0_5, p0_6, p0_7, p0_8, p0_9⟩ && lil p0_10.length && szIn 1048576) (cond (decide ((if szSrt ⟨p0_0, p0_1, p0_2, p0_3, p0_4, p0_5, p0_6, p0_7, p0_8, p0_9⟩ 1048576 < 0 then -1 else if sz1 p0_10.length (szSrt ⟨p0_0, p0_1, p0_2, p0_3, p0_4, p0_5, p0_6, p0_7, p0_8, p0_9⟩ 1048576) < 0 then -1 else sz1 p0_10.length (szSrt ⟨p0_0, p0_1, p0_2, p0_3, p0_4, p0_5, p0_6, p0_7, p0_8, p0_9⟩ 1048576)) < 0))
 (some [(true, .b true)])
 (cond (lilS ⟨p0_0, p0_1, p0_2, p0_3, p0_4, p0_5, p0_6, p0_7, p0_8, p0_9⟩ && lil p0_10.length) (cond (domF ⟨p0_0, p0_1, p0_2, p0_3, p0_4, p0_5, p0_6, p0_7, p0_8, p0_9⟩ && lil p0_10.length) (cond (lilS ⟨p0_0, p0_1, p0_2, p0_3, p0_4, p0_5, p0_6, p0_7, p0_8, p0_9⟩ && lil p0_10.length) (cond (domF ⟨p0_0, p0_1, p0_2, p0_3, p0_4, p0_5, p0_6, p0_7, p0_8, p0_9⟩ && lil p0_10.length) (cond (!decide ((fC ⟨p0_0, p0_1, p0_2, p0_3, p0_4, p0_5, p0_6, p0_7, p0_8, p0_9⟩ p0_10) = (fC ⟨p0_0, p0_1, p0_2, p0_3, p0_4, p0_5, p0_6, p0_7, p0_8, p0_9⟩ p0_10)))
 (some [(true, .b false)])
 (cond (lilS ⟨p0_0, p0_1, p0_2, p0_3, p0_4, p0_5, p0_6, p0_7, p0_8, p0_9⟩ && lil p0_10.length) (cond (lilS ⟨p0_0, p0_1, p0_2, p0_3, p0_4, p0_5, p0_6, p0_7, p0_8, p0_9⟩ && lil p0_10.length) (cond (!(decide ((⟨p0_0, p0_1, p0_2, p0_3, p0_4, p0_5, p0_6, p0_7, p0_8, p0_9⟩ : Srt) = ⟨p0_0, p0_1, p0_2, p0_3, p0_4, p0_5, p0_6, p0_7, p0_8, p0_9⟩) && decide (p0_10 = p0_10)))
 (some [(true, .b false)])
 (some [(true, .b true)])) none) none)) none) none) none) none)) none := by kernel_rfl
theorem run_w_FnExactFormatCheckpoint (q0 : List Row) (q1 : Int) (q2 q3 q4 : List Row) (q5 : List (List Row)) (q6 q7 q8 q9 : Int) (e : List Row) (h : (domF ⟨q0, q1, q2, q3, q4, q5, q6, q7, q8, q9⟩ && lil e.length) = true) : runF (E_w_FnExactFormatCheckpoint BIG) Try.f5 [.sl .row q0, .i .i64 q1, .sl .row q2, .sl .row q3, .sl .row q4, .sl .run q5, .i .i64 q6, .i .i64 q7, .i .i64 q8, .i .i64 q9, .sl .row e] = some [(true, .b true)] := by
  obtain ⟨h1, h2⟩ := (Bool.and_eq_true _ _).mp h
  have h4 : domS ⟨q0, q1, q2, q3, q4, q5, q6, q7, q8, q9⟩ = true := by
    obtain ⟨h3, -⟩ := (Bool.and_eq_true _ _).mp h1
    exact ((Bool.and_eq_true _ _).mp h3).1
  have h3 := (domS_iff.1 h4).1
  rw [top_w_FnExactFormatCheckpoint]
  simp [h1, h2, h3, szIn, pushB]
def F_w_FnExactFormatCheckpoint : Ai.Fn := ⟨[(true, [.sl .row, .sc, .sl .row, .sl .row, .sl .row, .sl .run, .sc, .sc, .sc, .sc, .sl .row])], [(false, 1)], false, fun ds => match ds with | [.sl .row p0_0, .i .i64 p0_1, .sl .row p0_2, .sl .row p0_3, .sl .row p0_4, .sl .run p0_5, .i .i64 p0_6, .i .i64 p0_7, .i .i64 p0_8, .i .i64 p0_9, .sl .row p0_10] => domF ⟨p0_0, p0_1, p0_2, p0_3, p0_4, p0_5, p0_6, p0_7, p0_8, p0_9⟩ && lil p0_10.length | _ => false, fun ds => match ds with | [.sl .row p0_0, .i .i64 p0_1, .sl .row p0_2, .sl .row p0_3, .sl .row p0_4, .sl .run p0_5, .i .i64 p0_6, .i .i64 p0_7, .i .i64 p0_8, .i .i64 p0_9, .sl .row p0_10] => some [(true, .b (true))] | _ => none⟩
theorem fg_w_FnExactFormatCheckpoint : Try.prog.funcs[5]? = some Try.f5 := by kernel_rfl
theorem c_w_FnExactFormatCheckpoint : Ctr Try.prog 5 F_w_FnExactFormatCheckpoint := by
  refine ctr_of_run (code := Try.f5.body.getD .skip) mixed fg_w_FnExactFormatCheckpoint (by kernel_rfl) (Nat.le_of_ble_eq_true (by kernel_rfl)) (Nat.le_of_ble_eq_true (by kernel_rfl)) fun ds out hd hr => ?_
  dsimp only [F_w_FnExactFormatCheckpoint] at hd hr
  split at hd
  · simp only [Option.some.injEq] at hr
    subst hr
    exact ⟨E_w_FnExactFormatCheckpoint BIG, tys_ok tysB_ok, FnsL.cons (fn_ok c_w_szCheckpoint) fg_w_szCheckpoint rfl rfl (FnsL.cons (fn_ok c_w_toCheckpoint) fg_w_toCheckpoint rfl rfl (FnsL.cons (fn_ok c_w_eqCheckpoint) fg_w_eqCheckpoint rfl rfl (FnsL.cons (fn_ok c_s_FormatCheckpoint) fg_s_FormatCheckpoint rfl rfl (FnsL.cons (fn_ok c_i_FormatCheckpoint) fg_i_FormatCheckpoint rfl rfl (FnsL.nil))))), rfl, by kernel_rfl, by kernel_rfl, run_w_FnExactFormatCheckpoint _ _ _ _ _ _ _ _ _ _ _ hd⟩
  · cases hd
end Go.Proofs.Ytfjdfbdiichhdaa
