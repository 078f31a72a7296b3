/-
  What a sorter has left to emit, and valid checkpoints. Conditions: none.
-/
import Derived.Test.YtfjdfbdiichhdaaB3
namespace Go.Proofs.Ytfjdfbdiichhdaa
open Go Ai
set_option maxRecDepth 100000

theorem vS_parts {s : Srt} (h : vSorter s = true) : vRows s.input = true ∧ inB s.pos 0 s.input.length = true ∧ s.runs.all vRun = true ∧ 0 ≤ s.wr ∧ sortedB s.outp = true ∧ vPhase s = true := by
  simp only [vSorter, Bool.and_eq_true, decide_eq_true_eq] at h
  obtain ⟨⟨⟨⟨⟨⟨h1, h2⟩, h3⟩, h4⟩, h5⟩, h6⟩, h7⟩ := h
  exact ⟨h1, h2, h3, h4, h5, h7⟩
theorem vRows_len {l : List Row} (h : vRows l = true) : l.length ≤ 24 := by simp only [vRows, Bool.and_eq_true, decide_eq_true_eq] at h; exact h.2
theorem vS_lp {s : Srt} (h : vSorter s = true) (h3 : s.phase = 3 ∨ s.phase = 4) : 0 ≤ s.lp ∧ s.lp ≤ s.input.length := by
  have h := (vS_parts h).2.2.2.2.2
  unfold vPhase at h
  rcases h3 with e | e
  · rw [if_neg (by omega), if_neg (by omega), if_pos e] at h
    simp only [Bool.and_eq_true, decide_eq_true_eq, inB_iff] at h
    omega
  · rw [if_neg (by omega), if_neg (by omega), if_neg (by omega), if_pos e] at h
    simp only [Bool.and_eq_true, decide_eq_true_eq] at h
    omega
def E_s_RemainingRows (fuel : Nat) : Env := ⟨tys, [(25, callFn F_s_IsValidSorter)], [], fuel, 23, 0⟩
theorem top_s_RemainingRows (fuel : Nat) (p0_0 : List Row) (p0_1 : Int) (p0_2 : List Row) (p0_3 : List Row) (p0_4 : List Row) (p0_5 : List (List Row)) (p0_6 : Int) (p0_7 : Int) (p0_8 : Int) (p0_9 : Int) : runF (E_s_RemainingRows fuel) Try.f27 [.sl .row p0_0, .i .i64 p0_1, .sl .row p0_2, .sl .row p0_3, .sl .row p0_4, .sl .run p0_5, .i .i64 p0_6, .i .i64 p0_7, .i .i64 p0_8, .i .i64 p0_9] =
 cond (domS ⟨p0_0, p0_1, p0_2, p0_3, p0_4, p0_5, p0_6, p0_7, p0_8, p0_9⟩) (cond (!(vSorter ⟨p0_0, p0_1, p0_2, p0_3, p0_4, p0_5, p0_6, p0_7, p0_8, p0_9⟩))
 (some [(true, .i .i64 0)])
 (cond (decide (p0_8 = 3))
 (some [(true, .i .i64 (IntKind.i64.wrap ((p0_0.length : Int) - p0_6)))])
 (cond (decide (p0_8 = 4))
 (some [(true, .i .i64 (IntKind.i64.wrap ((p0_0.length : Int) - p0_6)))])
 (some [(true, .i .i64 (p0_0.length : Int))])))) none := by kernel_rfl
theorem run_s_RemainingRows (q0 : List Row) (q1 : Int) (q2 q3 q4 : List Row) (q5 : List (List Row)) (q6 q7 q8 q9 : Int) (h : domS ⟨q0, q1, q2, q3, q4, q5, q6, q7, q8, q9⟩ = true) : runF (E_s_RemainingRows BIG) Try.f27 [.sl .row q0, .i .i64 q1, .sl .row q2, .sl .row q3, .sl .row q4, .sl .run q5, .i .i64 q6, .i .i64 q7, .i .i64 q8, .i .i64 q9] = some [(true, .i .i64 (remS ⟨q0, q1, q2, q3, q4, q5, q6, q7, q8, q9⟩))] := by
  rw [top_s_RemainingRows, cond_true' h]
  unfold remS
  cases hv : vSorter ⟨q0, q1, q2, q3, q4, q5, q6, q7, q8, q9⟩ with
  | false => rfl
  | true =>
    have hl := vRows_len (vS_parts hv).1
    have hp := vS_lp hv
    simp only at hl hp
    simp only [Bool.not_true, cond_false, if_true]
    by_cases c3 : q8 = 3
    · have := hp (.inl c3); rw [cond_true' (by simpa using c3), if_pos (.inl c3), wrap64 (by omega) (by omega)]
    · rw [cond_false' (by simpa using c3)]
      by_cases c4 : q8 = 4
      · have := hp (.inr c4); rw [cond_true' (by simpa using c4), if_pos (.inr c4), wrap64 (by omega) (by omega)]
      · rw [cond_false' (by simpa using c4), if_neg (by omega)]
def F_s_RemainingRows : Ai.Fn := ⟨[(true, [.sl .row, .sc, .sl .row, .sl .row, .sl .row, .sl .run, .sc, .sc, .sc, .sc])], [(false, 1)], false, fun ds => match ds with | [.sl .row p0_0, .i .i64 p0_1, .sl .row p0_2, .sl .row p0_3, .sl .row p0_4, .sl .run p0_5, .i .i64 p0_6, .i .i64 p0_7, .i .i64 p0_8, .i .i64 p0_9] => domS ⟨p0_0, p0_1, p0_2, p0_3, p0_4, p0_5, p0_6, p0_7, p0_8, p0_9⟩ | _ => false, fun ds => match ds with | [.sl .row p0_0, .i .i64 p0_1, .sl .row p0_2, .sl .row p0_3, .sl .row p0_4, .sl .run p0_5, .i .i64 p0_6, .i .i64 p0_7, .i .i64 p0_8, .i .i64 p0_9] => some [(true, .i .i64 (remS ⟨p0_0, p0_1, p0_2, p0_3, p0_4, p0_5, p0_6, p0_7, p0_8, p0_9⟩))] | _ => none⟩
theorem fg_s_RemainingRows : Try.prog.funcs[27]? = some Try.f27 := by kernel_rfl
theorem c_s_RemainingRows : Ctr Try.prog 27 F_s_RemainingRows := by
  refine ctr_of_run (code := Try.f27.body.getD .skip) mixed fg_s_RemainingRows (by kernel_rfl) (Nat.le_of_ble_eq_true (by kernel_rfl)) (Nat.le_of_ble_eq_true (by kernel_rfl)) fun ds out hd hr => ?_
  dsimp only [F_s_RemainingRows] at hd hr
  split at hd
  · simp only [Option.some.injEq] at hr
    subst hr
    exact ⟨E_s_RemainingRows BIG, tys_ok tysB_ok, FnsL.cons (fn_ok c_s_IsValidSorter) fg_s_IsValidSorter rfl rfl (FnsL.nil), rfl, by kernel_rfl, by kernel_rfl, run_s_RemainingRows _ _ _ _ _ _ _ _ _ _ hd⟩
  · cases hd
def E_i_RemainingRows (fuel : Nat) : Env := ⟨tys, [(32, callFn F_i_IsValidSorter)], [], fuel, 23, 0⟩
theorem top_i_RemainingRows (fuel : Nat) (p0_0 : List Row) (p0_1 : Int) (p0_2 : List Row) (p0_3 : List Row) (p0_4 : List Row) (p0_5 : List (List Row)) (p0_6 : Int) (p0_7 : Int) (p0_8 : Int) (p0_9 : Int) : runF (E_i_RemainingRows fuel) Try.f34 [.sl .row p0_0, .i .i64 p0_1, .sl .row p0_2, .sl .row p0_3, .sl .row p0_4, .sl .run p0_5, .i .i64 p0_6, .i .i64 p0_7, .i .i64 p0_8, .i .i64 p0_9] =
 cond (domS ⟨p0_0, p0_1, p0_2, p0_3, p0_4, p0_5, p0_6, p0_7, p0_8, p0_9⟩) (cond (!(vSorter ⟨p0_0, p0_1, p0_2, p0_3, p0_4, p0_5, p0_6, p0_7, p0_8, p0_9⟩))
 (some [(true, .i .i64 0)])
 (cond (decide (p0_8 = 3))
 (some [(true, .i .i64 (IntKind.i64.wrap ((p0_0.length : Int) - p0_6)))])
 (cond (decide (p0_8 = 4))
 (some [(true, .i .i64 (IntKind.i64.wrap ((p0_0.length : Int) - p0_6)))])
 (some [(true, .i .i64 (p0_0.length : Int))])))) none := by kernel_rfl
theorem run_i_RemainingRows (q0 : List Row) (q1 : Int) (q2 q3 q4 : List Row) (q5 : List (List Row)) (q6 q7 q8 q9 : Int) (h : domS ⟨q0, q1, q2, q3, q4, q5, q6, q7, q8, q9⟩ = true) : runF (E_i_RemainingRows BIG) Try.f34 [.sl .row q0, .i .i64 q1, .sl .row q2, .sl .row q3, .sl .row q4, .sl .run q5, .i .i64 q6, .i .i64 q7, .i .i64 q8, .i .i64 q9] = some [(true, .i .i64 (remS ⟨q0, q1, q2, q3, q4, q5, q6, q7, q8, q9⟩))] := by
  have := run_s_RemainingRows q0 q1 q2 q3 q4 q5 q6 q7 q8 q9 h
  rw [top_s_RemainingRows] at this
  rw [top_i_RemainingRows]; exact this
def F_i_RemainingRows : Ai.Fn := ⟨[(true, [.sl .row, .sc, .sl .row, .sl .row, .sl .row, .sl .run, .sc, .sc, .sc, .sc])], [(false, 1)], false, fun ds => match ds with | [.sl .row p0_0, .i .i64 p0_1, .sl .row p0_2, .sl .row p0_3, .sl .row p0_4, .sl .run p0_5, .i .i64 p0_6, .i .i64 p0_7, .i .i64 p0_8, .i .i64 p0_9] => domS ⟨p0_0, p0_1, p0_2, p0_3, p0_4, p0_5, p0_6, p0_7, p0_8, p0_9⟩ | _ => false, fun ds => match ds with | [.sl .row p0_0, .i .i64 p0_1, .sl .row p0_2, .sl .row p0_3, .sl .row p0_4, .sl .run p0_5, .i .i64 p0_6, .i .i64 p0_7, .i .i64 p0_8, .i .i64 p0_9] => some [(true, .i .i64 (remS ⟨p0_0, p0_1, p0_2, p0_3, p0_4, p0_5, p0_6, p0_7, p0_8, p0_9⟩))] | _ => none⟩
theorem fg_i_RemainingRows : Try.prog.funcs[34]? = some Try.f34 := by kernel_rfl
theorem c_i_RemainingRows : Ctr Try.prog 34 F_i_RemainingRows := by
  refine ctr_of_run (code := Try.f34.body.getD .skip) mixed fg_i_RemainingRows (by kernel_rfl) (Nat.le_of_ble_eq_true (by kernel_rfl)) (Nat.le_of_ble_eq_true (by kernel_rfl)) fun ds out hd hr => ?_
  dsimp only [F_i_RemainingRows] at hd hr
  split at hd
  · simp only [Option.some.injEq] at hr
    subst hr
    exact ⟨E_i_RemainingRows BIG, tys_ok tysB_ok, FnsL.cons (fn_ok c_i_IsValidSorter) fg_i_IsValidSorter rfl rfl (FnsL.nil), rfl, by kernel_rfl, by kernel_rfl, run_i_RemainingRows _ _ _ _ _ _ _ _ _ _ hd⟩
  · cases hd
def vCkp (s : Srt) (e : List Row) : Bool := vSorter s && vRows e && decide (e.length + remS s = s.input.length) && decide (e = (sortR s.input).take e.length)
theorem remS_bd {s : Srt} (h : vSorter s = true) : 0 ≤ remS s ∧ remS s ≤ s.input.length := by
  have hp := vS_lp h
  unfold remS
  rw [if_pos h]
  split
  · have := hp (by assumption); omega
  · omega
def E_s_IsValidCheckpoint (fuel : Nat) : Env := ⟨tys, [(25, callFn F_s_IsValidSorter), (26, callFn F_s_AreValidRows), (27, callFn F_s_RemainingRows), (28, callFn F_s_l6Rows), (29, callFn F_s_SortRows)], [], fuel, 38, 0⟩
theorem top_s_IsValidCheckpoint (fuel : Nat) (p0_0 : List Row) (p0_1 : Int) (p0_2 : List Row) (p0_3 : List Row) (p0_4 : List Row) (p0_5 : List (List Row)) (p0_6 : Int) (p0_7 : Int) (p0_8 : Int) (p0_9 : Int) (p0_10 : List Row) : runF (E_s_IsValidCheckpoint fuel) Try.f8 [.sl .row p0_0, .i .i64 p0_1, .sl .row p0_2, .sl .row p0_3, .sl .row p0_4, .sl .run p0_5, .i .i64 p0_6, .i .i64 p0_7, .i .i64 p0_8, .i .i64 p0_9, .sl .row p0_10] =
 cond (domS ⟨p0_0, p0_1, p0_2, p0_3, p0_4, p0_5, p0_6, p0_7, p0_8, p0_9⟩) (cond (!(vSorter ⟨p0_0, p0_1, p0_2, p0_3, p0_4, p0_5, p0_6, p0_7, p0_8, p0_9⟩))
 (some [(true, .b false)])
 (cond (lil p0_10.length) (cond (!(vRows p0_10))
 (some [(true, .b false)])
 (cond (domS ⟨p0_0, p0_1, p0_2, p0_3, p0_4, p0_5, p0_6, p0_7, p0_8, p0_9⟩) (cond (!decide ((IntKind.i64.wrap ((p0_10.length : Int) + (remS ⟨p0_0, p0_1, p0_2, p0_3, p0_4, p0_5, p0_6, p0_7, p0_8, p0_9⟩))) = (p0_0.length : Int)))
 (some [(true, .b false)])
 (cond (lil p0_0.length) (cond (decide (0 ≤ (p0_10.length : Int)) && decide ((p0_10.length : Int) ≤ ((sortR p0_0).length : Int))) (cond (lil p0_10.length) (some [(true, .b (decide (p0_10 = ((sortR p0_0).take ((p0_10.length : Int).toNat)))))]) none) none) none)) none)) none)) none := by kernel_rfl
theorem run_s_IsValidCheckpoint (q0 : List Row) (q1 : Int) (q2 q3 q4 : List Row) (q5 : List (List Row)) (q6 q7 q8 q9 : Int) (e : List Row) (h : (domS ⟨q0, q1, q2, q3, q4, q5, q6, q7, q8, q9⟩ && lil e.length) = true) : runF (E_s_IsValidCheckpoint BIG) Try.f8 [.sl .row q0, .i .i64 q1, .sl .row q2, .sl .row q3, .sl .row q4, .sl .run q5, .i .i64 q6, .i .i64 q7, .i .i64 q8, .i .i64 q9, .sl .row e] = some [(true, .b (vCkp ⟨q0, q1, q2, q3, q4, q5, q6, q7, q8, q9⟩ e))] := by
  obtain ⟨h, he⟩ := (Bool.and_eq_true _ _).mp h
  rw [top_s_IsValidCheckpoint]
  simp only [h, he, cond_true]
  unfold vCkp
  cases hv : vSorter ⟨q0, q1, q2, q3, q4, q5, q6, q7, q8, q9⟩ with
  | false => rfl
  | true =>
    have hl := vRows_len (vS_parts hv).1
    have hr := remS_bd hv
    simp only at hl hr
    cases hve : vRows e with
    | false => rfl
    | true =>
      have hle := vRows_len hve
      rw [wrap64 (by omega) (by omega)]
      by_cases hc : (e.length : Int) + remS ⟨q0, q1, q2, q3, q4, q5, q6, q7, q8, q9⟩ = q0.length
      · have h1 : lil q0.length = true := lil_iff.2 (by omega)
        have h2 : (decide (0 ≤ (e.length : Int)) && decide ((e.length : Int) ≤ ((sortR q0).length : Int))) = true := by rw [sortR_len]; simp only [Bool.and_eq_true, decide_eq_true_eq]; omega
        rw [cond_false' (by simp [hc]), cond_true' h1, cond_true' h2]
        simp [hc]
      · simp [hc]
def F_s_IsValidCheckpoint : Ai.Fn := ⟨[(true, [.sl .row, .sc, .sl .row, .sl .row, .sl .row, .sl .run, .sc, .sc, .sc, .sc, .sl .row])], [(false, 1)], false, fun ds => match ds with | [.sl .row p0_0, .i .i64 p0_1, .sl .row p0_2, .sl .row p0_3, .sl .row p0_4, .sl .run p0_5, .i .i64 p0_6, .i .i64 p0_7, .i .i64 p0_8, .i .i64 p0_9, .sl .row p0_10] => domS ⟨p0_0, p0_1, p0_2, p0_3, p0_4, p0_5, p0_6, p0_7, p0_8, p0_9⟩ && lil p0_10.length | _ => false, fun ds => match ds with | [.sl .row p0_0, .i .i64 p0_1, .sl .row p0_2, .sl .row p0_3, .sl .row p0_4, .sl .run p0_5, .i .i64 p0_6, .i .i64 p0_7, .i .i64 p0_8, .i .i64 p0_9, .sl .row p0_10] => some [(true, .b (vCkp ⟨p0_0, p0_1, p0_2, p0_3, p0_4, p0_5, p0_6, p0_7, p0_8, p0_9⟩ p0_10))] | _ => none⟩
theorem fg_s_IsValidCheckpoint : Try.prog.funcs[8]? = some Try.f8 := by kernel_rfl
theorem c_s_IsValidCheckpoint : Ctr Try.prog 8 F_s_IsValidCheckpoint := by
  refine ctr_of_run (code := Try.f8.body.getD .skip) mixed fg_s_IsValidCheckpoint (by kernel_rfl) (Nat.le_of_ble_eq_true (by kernel_rfl)) (Nat.le_of_ble_eq_true (by kernel_rfl)) fun ds out hd hr => ?_
  dsimp only [F_s_IsValidCheckpoint] at hd hr
  split at hd
  · simp only [Option.some.injEq] at hr
    subst hr
    exact ⟨E_s_IsValidCheckpoint BIG, tys_ok tysB_ok, FnsL.cons (fn_ok c_s_IsValidSorter) fg_s_IsValidSorter rfl rfl (FnsL.cons (fn_ok c_s_AreValidRows) fg_s_AreValidRows rfl rfl (FnsL.cons (fn_ok c_s_RemainingRows) fg_s_RemainingRows rfl rfl (FnsL.cons (fn_ok c_s_l6Rows) fg_s_l6Rows rfl rfl (FnsL.cons (fn_ok c_s_SortRows) fg_s_SortRows rfl rfl (FnsL.nil))))), rfl, by kernel_rfl, by kernel_rfl, run_s_IsValidCheckpoint _ _ _ _ _ _ _ _ _ _ _ hd⟩
  · cases hd
def E_i_IsValidCheckpoint (fuel : Nat) : Env := ⟨tys, [(32, callFn F_i_IsValidSorter), (33, callFn F_i_AreValidRows), (34, callFn F_i_RemainingRows), (35, callFn F_i_equal), (36, callFn F_i_SortRows)], [], fuel, 36, 0⟩
theorem top_i_IsValidCheckpoint (fuel : Nat) (p0_0 : List Row) (p0_1 : Int) (p0_2 : List Row) (p0_3 : List Row) (p0_4 : List Row) (p0_5 : List (List Row)) (p0_6 : Int) (p0_7 : Int) (p0_8 : Int) (p0_9 : Int) (p0_10 : List Row) : runF (E_i_IsValidCheckpoint fuel) Try.f10 [.sl .row p0_0, .i .i64 p0_1, .sl .row p0_2, .sl .row p0_3, .sl .row p0_4, .sl .run p0_5, .i .i64 p0_6, .i .i64 p0_7, .i .i64 p0_8, .i .i64 p0_9, .sl .row p0_10] =
 cond (domS ⟨p0_0, p0_1, p0_2, p0_3, p0_4, p0_5, p0_6, p0_7, p0_8, p0_9⟩) (cond (vSorter ⟨p0_0, p0_1, p0_2, p0_3, p0_4, p0_5, p0_6, p0_7, p0_8, p0_9⟩)
 (cond (lil p0_10.length) (cond (vRows p0_10)
 (cond (domS ⟨p0_0, p0_1, p0_2, p0_3, p0_4, p0_5, p0_6, p0_7, p0_8, p0_9⟩) (cond (decide ((IntKind.i64.wrap ((p0_10.length : Int) + (remS ⟨p0_0, p0_1, p0_2, p0_3, p0_4, p0_5, p0_6, p0_7, p0_8, p0_9⟩))) = (p0_0.length : Int)))
 (cond (decide (p0_0.length ≤ 39)) (cond (decide (0 ≤ (p0_10.length : Int)) && decide ((p0_10.length : Int) ≤ ((sortR p0_0).length : Int))) (cond (lil p0_10.length) (some [(true, .b (decide (p0_10 = ((sortR p0_0).take ((p0_10.length : Int).toNat)))))]) none) none) none)
 (some [(true, .b false)])) none)
 (some [(true, .b false)])) none)
 (some [(true, .b false)])) none := by kernel_rfl
theorem run_i_IsValidCheckpoint (q0 : List Row) (q1 : Int) (q2 q3 q4 : List Row) (q5 : List (List Row)) (q6 q7 q8 q9 : Int) (e : List Row) (h : (domS ⟨q0, q1, q2, q3, q4, q5, q6, q7, q8, q9⟩ && lil e.length) = true) : runF (E_i_IsValidCheckpoint BIG) Try.f10 [.sl .row q0, .i .i64 q1, .sl .row q2, .sl .row q3, .sl .row q4, .sl .run q5, .i .i64 q6, .i .i64 q7, .i .i64 q8, .i .i64 q9, .sl .row e] = some [(true, .b (vCkp ⟨q0, q1, q2, q3, q4, q5, q6, q7, q8, q9⟩ e))] := by
  obtain ⟨h, he⟩ := (Bool.and_eq_true _ _).mp h
  rw [top_i_IsValidCheckpoint]
  simp only [h, he, cond_true]
  unfold vCkp
  cases hv : vSorter ⟨q0, q1, q2, q3, q4, q5, q6, q7, q8, q9⟩ with
  | false => rfl
  | true =>
    have hl := vRows_len (vS_parts hv).1
    have hr := remS_bd hv
    simp only at hl hr
    cases hve : vRows e with
    | false => rfl
    | true =>
      have hle := vRows_len hve
      rw [wrap64 (by omega) (by omega)]
      by_cases hc : (e.length : Int) + remS ⟨q0, q1, q2, q3, q4, q5, q6, q7, q8, q9⟩ = q0.length
      · have h1 : decide (q0.length ≤ 39) = true := by simp <;> omega
        have h2 : (decide (0 ≤ (e.length : Int)) && decide ((e.length : Int) ≤ ((sortR q0).length : Int))) = true := by rw [sortR_len]; simp only [Bool.and_eq_true, decide_eq_true_eq]; omega
        rw [cond_true' (by simp [hc]), cond_true' h1, cond_true' h2]
        simp [hc]
      · simp [hc]
def F_i_IsValidCheckpoint : Ai.Fn := ⟨[(true, [.sl .row, .sc, .sl .row, .sl .row, .sl .row, .sl .run, .sc, .sc, .sc, .sc, .sl .row])], [(false, 1)], false, fun ds => match ds with | [.sl .row p0_0, .i .i64 p0_1, .sl .row p0_2, .sl .row p0_3, .sl .row p0_4, .sl .run p0_5, .i .i64 p0_6, .i .i64 p0_7, .i .i64 p0_8, .i .i64 p0_9, .sl .row p0_10] => domS ⟨p0_0, p0_1, p0_2, p0_3, p0_4, p0_5, p0_6, p0_7, p0_8, p0_9⟩ && lil p0_10.length | _ => false, fun ds => match ds with | [.sl .row p0_0, .i .i64 p0_1, .sl .row p0_2, .sl .row p0_3, .sl .row p0_4, .sl .run p0_5, .i .i64 p0_6, .i .i64 p0_7, .i .i64 p0_8, .i .i64 p0_9, .sl .row p0_10] => some [(true, .b (vCkp ⟨p0_0, p0_1, p0_2, p0_3, p0_4, p0_5, p0_6, p0_7, p0_8, p0_9⟩ p0_10))] | _ => none⟩
theorem fg_i_IsValidCheckpoint : Try.prog.funcs[10]? = some Try.f10 := by kernel_rfl
theorem c_i_IsValidCheckpoint : Ctr Try.prog 10 F_i_IsValidCheckpoint := by
  refine ctr_of_run (code := Try.f10.body.getD .skip) mixed fg_i_IsValidCheckpoint (by kernel_rfl) (Nat.le_of_ble_eq_true (by kernel_rfl)) (Nat.le_of_ble_eq_true (by kernel_rfl)) fun ds out hd hr => ?_
  dsimp only [F_i_IsValidCheckpoint] at hd hr
  split at hd
  · simp only [Option.some.injEq] at hr
    subst hr
    exact ⟨E_i_IsValidCheckpoint BIG, tys_ok tysB_ok, FnsL.cons (fn_ok c_i_IsValidSorter) fg_i_IsValidSorter rfl rfl (FnsL.cons (fn_ok c_i_AreValidRows) fg_i_AreValidRows rfl rfl (FnsL.cons (fn_ok c_i_RemainingRows) fg_i_RemainingRows rfl rfl (FnsL.cons (fn_ok c_i_equal) fg_i_equal rfl rfl (FnsL.cons (fn_ok c_i_SortRows) fg_i_SortRows rfl rfl (FnsL.nil))))), rfl, by kernel_rfl, by kernel_rfl, run_i_IsValidCheckpoint _ _ _ _ _ _ _ _ _ _ _ hd⟩
  · cases hd
end Go.Proofs.Ytfjdfbdiichhdaa
