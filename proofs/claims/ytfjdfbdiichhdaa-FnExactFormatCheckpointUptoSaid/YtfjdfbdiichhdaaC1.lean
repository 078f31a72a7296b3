/-
  The law FnExactIsValidCheckpoint: its code answers true. Conditions: none.
-/
import Derived.Test.YtfjdfbdiichhdaaB5
namespace Go.Proofs.Ytfjdfbdiichhdaa
open Go Ai
set_option maxRecDepth 100000
def E_w_szCheckpoint (fuel : Nat) : Env := ⟨tys, [(23, callFn F_w_szSorter), (24, callFn F_w_szRowS)], [], fuel, 18, 0⟩
theorem top_w_szCheckpoint (fuel : Nat) (p0_0 : List Row) (p0_1 : Int) (p0_2 : List Row) (p0_3 : List Row) (p0_4 : List Row) (p0_5 : List (List Row)) (p0_6 : Int) (p0_7 : Int) (p0_8 : Int) (p0_9 : Int) (p0_10 : List Row) (p1 : Int) : runF (E_w_szCheckpoint fuel) Try.f7 [.sl .row p0_0, .i .i64 p0_1, .sl .row p0_2, .sl .row p0_3, .sl .row p0_4, .sl .run p0_5, .i .i64 p0_6, .i .i64 p0_7, .i .i64 p0_8, .i .i64 p0_9, .sl .row p0_10, .i .i64 p1] =
 cond (lilS ⟨p0_0, p0_1, p0_2, p0_3, p0_4, p0_5, p0_6, p0_7, p0_8, p0_9⟩ && szIn p1) (cond (decide ((szSrt ⟨p0_0, p0_1, p0_2, p0_3, p0_4, p0_5, p0_6, p0_7, p0_8, p0_9⟩ p1) < 0))
 (some [(true, .i .i64 (-1))])
 (cond (lil p0_10.length && szIn (szSrt ⟨p0_0, p0_1, p0_2, p0_3, p0_4, p0_5, p0_6, p0_7, p0_8, p0_9⟩ p1)) (cond (decide ((sz1 p0_10.length (szSrt ⟨p0_0, p0_1, p0_2, p0_3, p0_4, p0_5, p0_6, p0_7, p0_8, p0_9⟩ p1)) < 0))
 (some [(true, .i .i64 (-1))])
 (some [(true, .i .i64 (sz1 p0_10.length (szSrt ⟨p0_0, p0_1, p0_2, p0_3, p0_4, p0_5, p0_6, p0_7, p0_8, p0_9⟩ p1)))])) none)) none := by kernel_rfl
theorem run_w_szCheckpoint (q0 : List Row) (q1 : Int) (q2 q3 q4 : List Row) (q5 : List (List Row)) (q6 q7 q8 q9 : Int) (e : List Row) (p1 : Int) (h : (lilS ⟨q0, q1, q2, q3, q4, q5, q6, q7, q8, q9⟩ && lil e.length && szIn p1) = true) : runF (E_w_szCheckpoint BIG) Try.f7 [.sl .row q0, .i .i64 q1, .sl .row q2, .sl .row q3, .sl .row q4, .sl .run q5, .i .i64 q6, .i .i64 q7, .i .i64 q8, .i .i64 q9, .sl .row e, .i .i64 p1] = some [(true, .i .i64 (if szSrt ⟨q0, q1, q2, q3, q4, q5, q6, q7, q8, q9⟩ p1 < 0 then -1 else if sz1 e.length (szSrt ⟨q0, q1, q2, q3, q4, q5, q6, q7, q8, q9⟩ p1) < 0 then -1 else sz1 e.length (szSrt ⟨q0, q1, q2, q3, q4, q5, q6, q7, q8, q9⟩ p1)))] := by
  obtain ⟨h1, h3⟩ := (Bool.and_eq_true _ _).mp h
  obtain ⟨h1, h2⟩ := (Bool.and_eq_true _ _).mp h1
  rw [top_w_szCheckpoint]
  simp only [h1, h2, h3, szSrt_in h3, Bool.and_self, cond_true, pushI]
  refine someI ?_
  simp only [Bool.cond_eq_ite, decide_eq_true_eq]
def F_w_szCheckpoint : Ai.Fn := ⟨[(true, [.sl .row, .sc, .sl .row, .sl .row, .sl .row, .sl .run, .sc, .sc, .sc, .sc, .sl .row]), (false, [.sc])], [(false, 1)], false, fun ds => match ds with | [.sl .row p0_0, .i .i64 p0_1, .sl .row p0_2, .sl .row p0_3, .sl .row p0_4, .sl .run p0_5, .i .i64 p0_6, .i .i64 p0_7, .i .i64 p0_8, .i .i64 p0_9, .sl .row p0_10, .i .i64 p1] => lilS ⟨p0_0, p0_1, p0_2, p0_3, p0_4, p0_5, p0_6, p0_7, p0_8, p0_9⟩ && lil p0_10.length && szIn p1 | _ => false, fun ds => match ds with | [.sl .row p0_0, .i .i64 p0_1, .sl .row p0_2, .sl .row p0_3, .sl .row p0_4, .sl .run p0_5, .i .i64 p0_6, .i .i64 p0_7, .i .i64 p0_8, .i .i64 p0_9, .sl .row p0_10, .i .i64 p1] => some [(true, .i .i64 (if szSrt ⟨p0_0, p0_1, p0_2, p0_3, p0_4, p0_5, p0_6, p0_7, p0_8, p0_9⟩ p1 < 0 then -1 else if sz1 p0_10.length (szSrt ⟨p0_0, p0_1, p0_2, p0_3, p0_4, p0_5, p0_6, p0_7, p0_8, p0_9⟩ p1) < 0 then -1 else sz1 p0_10.length (szSrt ⟨p0_0, p0_1, p0_2, p0_3, p0_4, p0_5, p0_6, p0_7, p0_8, p0_9⟩ p1)))] | _ => none⟩
theorem fg_w_szCheckpoint : Try.prog.funcs[7]? = some Try.f7 := by kernel_rfl
theorem c_w_szCheckpoint : Ctr Try.prog 7 F_w_szCheckpoint := by
  refine ctr_of_run (code := Try.f7.body.getD .skip) mixed fg_w_szCheckpoint (by kernel_rfl) (Nat.le_of_ble_eq_true (by kernel_rfl)) (Nat.le_of_ble_eq_true (by kernel_rfl)) fun ds out hd hr => ?_
  dsimp only [F_w_szCheckpoint] at hd hr
  split at hd
  · simp only [Option.some.injEq] at hr
    subst hr
    exact ⟨E_w_szCheckpoint BIG, tys_ok tysB_ok, FnsL.cons (fn_ok c_w_szSorter) fg_w_szSorter rfl rfl (FnsL.cons (fn_ok c_w_szRowS) fg_w_szRowS rfl rfl (FnsL.nil)), rfl, by kernel_rfl, by kernel_rfl, run_w_szCheckpoint _ _ _ _ _ _ _ _ _ _ _ _ hd⟩
  · cases hd
def E_w_toCheckpoint (fuel : Nat) : Env := ⟨tys, [(30, callFn F_w_toSorter), (31, callFn F_w_toRowS)], [], fuel, 13, 0⟩
theorem top_w_toCheckpoint (fuel : Nat) (p0_0 : List Row) (p0_1 : Int) (p0_2 : List Row) (p0_3 : List Row) (p0_4 : List Row) (p0_5 : List (List Row)) (p0_6 : Int) (p0_7 : Int) (p0_8 : Int) (p0_9 : Int) (p0_10 : List Row) : runF (E_w_toCheckpoint fuel) Try.f9 [.sl .row p0_0, .i .i64 p0_1, .sl .row p0_2, .sl .row p0_3, .sl .row p0_4, .sl .run p0_5, .i .i64 p0_6, .i .i64 p0_7, .i .i64 p0_8, .i .i64 p0_9, .sl .row p0_10] =
 cond (lilS ⟨p0_0, p0_1, p0_2, p0_3, p0_4, p0_5, p0_6, p0_7, p0_8, p0_9⟩) (cond (lil p0_10.length && p0_10.all fun e => true) (some [(true, .sl .row p0_0), (true, .i .i64 p0_1), (true, .sl .row p0_2), (true, .sl .row p0_3), (true, .sl .row p0_4), (true, .sl .run p0_5), (true, .i .i64 p0_6), (true, .i .i64 p0_7), (true, .i .i64 p0_8), (true, .i .i64 p0_9), (true, .sl .row p0_10)]) none) none := by kernel_rfl
theorem run_w_toCheckpoint (q0 : List Row) (q1 : Int) (q2 q3 q4 : List Row) (q5 : List (List Row)) (q6 q7 q8 q9 : Int) (e : List Row) (h : (lilS ⟨q0, q1, q2, q3, q4, q5, q6, q7, q8, q9⟩ && lil e.length) = true) : runF (E_w_toCheckpoint BIG) Try.f9 [.sl .row q0, .i .i64 q1, .sl .row q2, .sl .row q3, .sl .row q4, .sl .run q5, .i .i64 q6, .i .i64 q7, .i .i64 q8, .i .i64 q9, .sl .row e] = some [(true, .sl .row q0), (true, .i .i64 q1), (true, .sl .row q2), (true, .sl .row q3), (true, .sl .row q4), (true, .sl .run q5), (true, .i .i64 q6), (true, .i .i64 q7), (true, .i .i64 q8), (true, .i .i64 q9), (true, .sl .row e)] := by
  obtain ⟨h1, h2⟩ := (Bool.and_eq_true _ _).mp h
  rw [top_w_toCheckpoint]
  simp only [h1, h2, all_true, Bool.and_self, cond_true]
def F_w_toCheckpoint : Ai.Fn := ⟨[(true, [.sl .row, .sc, .sl .row, .sl .row, .sl .row, .sl .run, .sc, .sc, .sc, .sc, .sl .row])], [(true, 11)], false, fun ds => match ds with | [.sl .row p0_0, .i .i64 p0_1, .sl .row p0_2, .sl .row p0_3, .sl .row p0_4, .sl .run p0_5, .i .i64 p0_6, .i .i64 p0_7, .i .i64 p0_8, .i .i64 p0_9, .sl .row p0_10] => lilS ⟨p0_0, p0_1, p0_2, p0_3, p0_4, p0_5, p0_6, p0_7, p0_8, p0_9⟩ && lil p0_10.length | _ => false, fun ds => match ds with | [.sl .row p0_0, .i .i64 p0_1, .sl .row p0_2, .sl .row p0_3, .sl .row p0_4, .sl .run p0_5, .i .i64 p0_6, .i .i64 p0_7, .i .i64 p0_8, .i .i64 p0_9, .sl .row p0_10] => some [(true, .sl .row (p0_0)), (true, .i .i64 (p0_1)), (true, .sl .row (p0_2)), (true, .sl .row (p0_3)), (true, .sl .row (p0_4)), (true, .sl .run (p0_5)), (true, .i .i64 (p0_6)), (true, .i .i64 (p0_7)), (true, .i .i64 (p0_8)), (true, .i .i64 (p0_9)), (true, .sl .row (p0_10))] | _ => none⟩
theorem fg_w_toCheckpoint : Try.prog.funcs[9]? = some Try.f9 := by kernel_rfl
theorem c_w_toCheckpoint : Ctr Try.prog 9 F_w_toCheckpoint := by
  refine ctr_of_run (code := Try.f9.body.getD .skip) mixed fg_w_toCheckpoint (by kernel_rfl) (Nat.le_of_ble_eq_true (by kernel_rfl)) (Nat.le_of_ble_eq_true (by kernel_rfl)) fun ds out hd hr => ?_
  dsimp only [F_w_toCheckpoint] at hd hr
  split at hd
  · simp only [Option.some.injEq] at hr
    subst hr
    exact ⟨E_w_toCheckpoint BIG, tys_ok tysB_ok, FnsL.cons (fn_ok c_w_toSorter) fg_w_toSorter rfl rfl (FnsL.cons (fn_ok c_w_toRowS) fg_w_toRowS rfl rfl (FnsL.nil)), rfl, by kernel_rfl, by kernel_rfl, run_w_toCheckpoint _ _ _ _ _ _ _ _ _ _ _ hd⟩
  · cases hd
def E_w_eqCheckpoint (fuel : Nat) : Env := ⟨tys, [(37, callFn F_w_eqSorter), (38, callFn F_w_eqRowS)], [], fuel, 17, 0⟩
theorem top_w_eqCheckpoint (fuel : Nat) (p0_0 : List Row) (p0_1 : Int) (p0_2 : List Row) (p0_3 : List Row) (p0_4 : List Row) (p0_5 : List (List Row)) (p0_6 : Int) (p0_7 : Int) (p0_8 : Int) (p0_9 : Int) (p0_10 : List Row) (p1_0 : List Row) (p1_1 : Int) (p1_2 : List Row) (p1_3 : List Row) (p1_4 : List Row) (p1_5 : List (List Row)) (p1_6 : Int) (p1_7 : Int) (p1_8 : Int) (p1_9 : Int) (p1_10 : List Row) : runF (E_w_eqCheckpoint fuel) Try.f11 [.sl .row p0_0, .i .i64 p0_1, .sl .row p0_2, .sl .row p0_3, .sl .row p0_4, .sl .run p0_5, .i .i64 p0_6, .i .i64 p0_7, .i .i64 p0_8, .i .i64 p0_9, .sl .row p0_10, .sl .row p1_0, .i .i64 p1_1, .sl .row p1_2, .sl .row p1_3, .sl .row p1_4, .sl .run p1_5, .i .i64 p1_6, .i .i64 p1_7, .i .i64 p1_8, .i .i64 p1_9, .sl .row p1_10] =
 cond (lilS ⟨p0_0, p0_1, p0_2, p0_3, p0_4, p0_5, p0_6, p0_7, p0_8, p0_9⟩) (cond (!(decide ((⟨p0_0, p0_1, p0_2, p0_3, p0_4, p0_5, p0_6, p0_7, p0_8, p0_9⟩ : Srt) = ⟨p1_0, p1_1, p1_2, p1_3, p1_4, p1_5, p1_6, p1_7, p1_8, p1_9⟩)))
 (some [(true, .b false)])
 (cond (lil p0_10.length && p0_10.all fun e => true) (cond (!(decide (p0_10 = p1_10)))
 (some [(true, .b false)])
 (some [(true, .b true)])) none)) none := by kernel_rfl
theorem run_w_eqCheckpoint (q0 : List Row) (q1 : Int) (q2 q3 q4 : List Row) (q5 : List (List Row)) (q6 q7 q8 q9 : Int) (e : List Row) (r0 : List Row) (r1 : Int) (r2 r3 r4 : List Row) (r5 : List (List Row)) (r6 r7 r8 r9 : Int) (f : List Row) (h : (lilS ⟨q0, q1, q2, q3, q4, q5, q6, q7, q8, q9⟩ && lil e.length) = true) :
    runF (E_w_eqCheckpoint BIG) Try.f11 [.sl .row q0, .i .i64 q1, .sl .row q2, .sl .row q3, .sl .row q4, .sl .run q5, .i .i64 q6, .i .i64 q7, .i .i64 q8, .i .i64 q9, .sl .row e, .sl .row r0, .i .i64 r1, .sl .row r2, .sl .row r3, .sl .row r4, .sl .run r5, .i .i64 r6, .i .i64 r7, .i .i64 r8, .i .i64 r9, .sl .row f] =
    some [(true, .b (decide ((⟨q0, q1, q2, q3, q4, q5, q6, q7, q8, q9⟩ : Srt) = ⟨r0, r1, r2, r3, r4, r5, r6, r7, r8, r9⟩) && decide (e = f)))] := by
  obtain ⟨h1, h2⟩ := (Bool.and_eq_true _ _).mp h
  rw [top_w_eqCheckpoint]
  simp only [h1, h2, all_true, Bool.and_self, cond_true, pushB]
  refine someB ?_
  cases decide ((⟨q0, q1, q2, q3, q4, q5, q6, q7, q8, q9⟩ : Srt) = ⟨r0, r1, r2, r3, r4, r5, r6, r7, r8, r9⟩) <;> cases decide (e = f) <;> rfl
def F_w_eqCheckpoint : Ai.Fn := ⟨[(true, [.sl .row, .sc, .sl .row, .sl .row, .sl .row, .sl .run, .sc, .sc, .sc, .sc, .sl .row]), (true, [.sl .row, .sc, .sl .row, .sl .row, .sl .row, .sl .run, .sc, .sc, .sc, .sc, .sl .row])], [(false, 1)], false, fun ds => match ds with | [.sl .row p0_0, .i .i64 p0_1, .sl .row p0_2, .sl .row p0_3, .sl .row p0_4, .sl .run p0_5, .i .i64 p0_6, .i .i64 p0_7, .i .i64 p0_8, .i .i64 p0_9, .sl .row p0_10, .sl .row p1_0, .i .i64 p1_1, .sl .row p1_2, .sl .row p1_3, .sl .row p1_4, .sl .run p1_5, .i .i64 p1_6, .i .i64 p1_7, .i .i64 p1_8, .i .i64 p1_9, .sl .row p1_10] => lilS ⟨p0_0, p0_1, p0_2, p0_3, p0_4, p0_5, p0_6, p0_7, p0_8, p0_9⟩ && lil p0_10.length | _ => false, fun ds => match ds with | [.sl .row p0_0, .i .i64 p0_1, .sl .row p0_2, .sl .row p0_3, .sl .row p0_4, .sl .run p0_5, .i .i64 p0_6, .i .i64 p0_7, .i .i64 p0_8, .i .i64 p0_9, .sl .row p0_10, .sl .row p1_0, .i .i64 p1_1, .sl .row p1_2, .sl .row p1_3, .sl .row p1_4, .sl .run p1_5, .i .i64 p1_6, .i .i64 p1_7, .i .i64 p1_8, .i .i64 p1_9, .sl .row p1_10] => some [(true, .b (decide ((⟨p0_0, p0_1, p0_2, p0_3, p0_4, p0_5, p0_6, p0_7, p0_8, p0_9⟩ : Srt) = ⟨p1_0, p1_1, p1_2, p1_3, p1_4, p1_5, p1_6, p1_7, p1_8, p1_9⟩) && decide (p0_10 = p1_10)))] | _ => none⟩
theorem fg_w_eqCheckpoint : Try.prog.funcs[11]? = some Try.f11 := by kernel_rfl
theorem c_w_eqCheckpoint : Ctr Try.prog 11 F_w_eqCheckpoint := by
  refine ctr_of_run (code := Try.f11.body.getD .skip) mixed fg_w_eqCheckpoint (by kernel_rfl) (Nat.le_of_ble_eq_true (by kernel_rfl)) (Nat.le_of_ble_eq_true (by kernel_rfl)) fun ds out hd hr => ?_
  dsimp only [F_w_eqCheckpoint] at hd hr
  split at hd
  · simp only [Option.some.injEq] at hr
    subst hr
    exact ⟨E_w_eqCheckpoint BIG, tys_ok tysB_ok, FnsL.cons (fn_ok c_w_eqSorter) fg_w_eqSorter rfl rfl (FnsL.cons (fn_ok c_w_eqRowS) fg_w_eqRowS rfl rfl (FnsL.nil)), rfl, by kernel_rfl, by kernel_rfl, run_w_eqCheckpoint _ _ _ _ _ _ _ _ _ _ _ _ _ _ _ _ _ _ _ _ _ _ hd⟩
  · cases hd
def E_w_FnExactIsValidCheckpoint (fuel : Nat) : Env := ⟨tys, [(7, callFn F_w_szCheckpoint), (8, callFn F_s_IsValidCheckpoint), (9, callFn F_w_toCheckpoint), (10, callFn F_i_IsValidCheckpoint), (11, callFn F_w_eqCheckpoint)], [], fuel, 27, 0⟩
theorem top_w_FnExactIsValidCheckpoint (fuel : Nat) (p0_0 : List Row) (p0_1 : Int) (p0_2 : List Row) (p0_3 : List Row) (p0_4 : List Row) (p0_5 : List (List Row)) (p0_6 : Int) (p0_7 : Int) (p0_8 : Int) (p0_9 : Int) (p0_10 : List Row) : runF (E_w_FnExactIsValidCheckpoint fuel) Try.f3 [.sl .row p0_0, .i .i64 p0_1, .sl .row p0_2, .sl .row p0_3, .sl .row p0_4, .sl .run p0_5, .i .i64 p0_6, .i .i64 p0_7, .i .i64 p0_8, .i .i64 p0_9, .sl .row p0_10] =
 cond (lilS ⟨p0_0, p0_1, p0_2, p0_3, p0_4, p0_5, p0_6, p0_7, p0_8, p0_9⟩ && lil p0_10.length && szIn 1048576) (cond (decide ((if szSrt ⟨p0_0, p0_1, p0_2, p0_3, p0_4, p0_5, p0_6, p0_7, p0_8, p0_9⟩ 1048576 < 0 then -1 else if sz1 p0_10.length (szSrt ⟨p0_0, p0_1, p0_2, p0_3, p0_4, p0_5, p0_6, p0_7, p0_8, p0_9⟩ 1048576) < 0 then -1 else sz1 p0_10.length (szSrt ⟨p0_0, p0_1, p0_2, p0_3, p0_4, p0_5, p0_6, p0_7, p0_8, p0_9⟩ 1048576)) < 0))
 (some [(true, .b true)])
 (cond (lilS ⟨p0_0, p0_1, p0_2, p0_3, p0_4, p0_5, p0_6, p0_7, p0_8, p0_9⟩ && lil p0_10.length) (cond (domS ⟨p0_0, p0_1, p0_2, p0_3, p0_4, p0_5, p0_6, p0_7, p0_8, p0_9⟩ && lil p0_10.length) (cond (lilS ⟨p0_0, p0_1, p0_2, p0_3, p0_4, p0_5, p0_6, p0_7, p0_8, p0_9⟩ && lil p0_10.length) (cond (domS ⟨p0_0, p0_1, p0_2, p0_3, p0_4, p0_5, p0_6, p0_7, p0_8, p0_9⟩ && lil p0_10.length) (cond (!decide ((vCkp ⟨p0_0, p0_1, p0_2, p0_3, p0_4, p0_5, p0_6, p0_7, p0_8, p0_9⟩ p0_10) = (vCkp ⟨p0_0, p0_1, p0_2, p0_3, p0_4, p0_5, p0_6, p0_7, p0_8, p0_9⟩ p0_10)))
 (some [(true, .b false)])
 (cond (lilS ⟨p0_0, p0_1, p0_2, p0_3, p0_4, p0_5, p0_6, p0_7, p0_8, p0_9⟩ && lil p0_10.length) (cond (lilS ⟨p0_0, p0_1, p0_2, p0_3, p0_4, p0_5, p0_6, p0_7, p0_8, p0_9⟩ && lil p0_10.length) (cond (!(decide ((⟨p0_0, p0_1, p0_2, p0_3, p0_4, p0_5, p0_6, p0_7, p0_8, p0_9⟩ : Srt) = ⟨p0_0, p0_1, p0_2, p0_3, p0_4, p0_5, p0_6, p0_7, p0_8, p0_9⟩) && decide (p0_10 = p0_10)))
 (some [(true, .b false)])
 (some [(true, .b true)])) none) none)) none) none) none) none)) none := by kernel_rfl
theorem run_w_FnExactIsValidCheckpoint (q0 : List Row) (q1 : Int) (q2 q3 q4 : List Row) (q5 : List (List Row)) (q6 q7 q8 q9 : Int) (e : List Row) (h : (domS ⟨q0, q1, q2, q3, q4, q5, q6, q7, q8, q9⟩ && lil e.length) = true) : runF (E_w_FnExactIsValidCheckpoint BIG) Try.f3 [.sl .row q0, .i .i64 q1, .sl .row q2, .sl .row q3, .sl .row q4, .sl .run q5, .i .i64 q6, .i .i64 q7, .i .i64 q8, .i .i64 q9, .sl .row e] = some [(true, .b true)] := by
  obtain ⟨h1, h2⟩ := (Bool.and_eq_true _ _).mp h
  have h3 := (domS_iff.1 h1).1
  rw [top_w_FnExactIsValidCheckpoint]
  simp [h1, h2, h3, szIn, pushB]
def F_w_FnExactIsValidCheckpoint : Ai.Fn := ⟨[(true, [.sl .row, .sc, .sl .row, .sl .row, .sl .row, .sl .run, .sc, .sc, .sc, .sc, .sl .row])], [(false, 1)], false, fun ds => match ds with | [.sl .row p0_0, .i .i64 p0_1, .sl .row p0_2, .sl .row p0_3, .sl .row p0_4, .sl .run p0_5, .i .i64 p0_6, .i .i64 p0_7, .i .i64 p0_8, .i .i64 p0_9, .sl .row p0_10] => domS ⟨p0_0, p0_1, p0_2, p0_3, p0_4, p0_5, p0_6, p0_7, p0_8, p0_9⟩ && lil p0_10.length | _ => false, fun ds => match ds with | [.sl .row p0_0, .i .i64 p0_1, .sl .row p0_2, .sl .row p0_3, .sl .row p0_4, .sl .run p0_5, .i .i64 p0_6, .i .i64 p0_7, .i .i64 p0_8, .i .i64 p0_9, .sl .row p0_10] => some [(true, .b (true))] | _ => none⟩
theorem fg_w_FnExactIsValidCheckpoint : Try.prog.funcs[3]? = some Try.f3 := by kernel_rfl
theorem c_w_FnExactIsValidCheckpoint : Ctr Try.prog 3 F_w_FnExactIsValidCheckpoint := by
  refine ctr_of_run (code := Try.f3.body.getD .skip) mixed fg_w_FnExactIsValidCheckpoint (by kernel_rfl) (Nat.le_of_ble_eq_true (by kernel_rfl)) (Nat.le_of_ble_eq_true (by kernel_rfl)) fun ds out hd hr => ?_
  dsimp only [F_w_FnExactIsValidCheckpoint] at hd hr
  split at hd
  · simp only [Option.some.injEq] at hr
    subst hr
    exact ⟨E_w_FnExactIsValidCheckpoint BIG, tys_ok tysB_ok, FnsL.cons (fn_ok c_w_szCheckpoint) fg_w_szCheckpoint rfl rfl (FnsL.cons (fn_ok c_s_IsValidCheckpoint) fg_s_IsValidCheckpoint rfl rfl (FnsL.cons (fn_ok c_w_toCheckpoint) fg_w_toCheckpoint rfl rfl (FnsL.cons (fn_ok c_i_IsValidCheckpoint) fg_i_IsValidCheckpoint rfl rfl (FnsL.cons (fn_ok c_w_eqCheckpoint) fg_w_eqCheckpoint rfl rfl (FnsL.nil))))), rfl, by kernel_rfl, by kernel_rfl, run_w_FnExactIsValidCheckpoint _ _ _ _ _ _ _ _ _ _ _ hd⟩
  · cases hd
end Go.Proofs.Ytfjdfbdiichhdaa
