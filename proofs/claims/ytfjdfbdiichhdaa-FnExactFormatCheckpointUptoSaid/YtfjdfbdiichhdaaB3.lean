/-
  Sorters: the memory in use and validity; the reference's and the program's. Conditions: none.
-/
import Derived.Test.YtfjdfbdiichhdaaB2
namespace Go.Proofs.Ytfjdfbdiichhdaa
open Go Ai
set_option maxRecDepth 100000

def belowB (r : Row) (l : List Row) : Bool := match l.getLast? with
  | some z => !decide (leR z r)
  | none => false
theorem last_get (l : List Row) (hl : l.length < 17179869184) : decide ((l.length : Int) > 0) = l.getLast?.isSome ∧ ∀ z, l.getLast? = some z → geti l (IntKind.i64.wrap ((l.length : Int) - 1)) = some z := by
  rcases List.eq_nil_or_concat l with e | ⟨S, z, e⟩
  · subst e; simp
  · rw [List.concat_eq_append] at e
    subst e
    simp only [List.length_append, List.length_singleton] at hl
    refine ⟨by simp <;> omega, fun y hy => ?_⟩
    simp at hy; subst hy
    rw [wrap64 (by simp <;> omega) (by simp <;> omega)]
    exact geti_app (by simp)
def E_i_below (fuel : Nat) : Env := ⟨tys, [(85, callFn F_i_CompareRows)], [], fuel, 19, 0⟩
theorem top_i_below (fuel : Nat) (p0_0 : Int) (p0_1 : Int) (p0_2 : Int) (p1 : List Row) : runF (E_i_below fuel) Try.f76 [.i .i64 p0_0, .i .i64 p0_1, .i .i64 p0_2, .sl .row p1] =
 cond (decide ((p1.length : Int) > 0))
 (Option.bind (geti p1 (IntKind.i64.wrap ((p1.length : Int) - 1))) fun e1 => some [(true, .b (decide ((cmpR ⟨p0_0, p0_1, p0_2⟩ e1) < 0)))])
 (some [(true, .b false)]) := by kernel_rfl
theorem run_i_below (a b c : Int) (l : List Row) (h : lil l.length = true) : runF (E_i_below BIG) Try.f76 [.i .i64 a, .i .i64 b, .i .i64 c, .sl .row l] = some [(true, .b (belowB ⟨a, b, c⟩ l))] := by
  rw [top_i_below, (last_get l (lil_iff.1 h)).1]
  unfold belowB
  cases hz : l.getLast? with
  | none => rfl
  | some z => simp only [Option.isSome_some, cond_true, (last_get l (lil_iff.1 h)).2 z hz, Option.bind_some, cmpB_lt']
def F_i_below : Ai.Fn := ⟨[(true, [.sc, .sc, .sc]), (false, [.sl .row])], [(false, 1)], false, fun ds => match ds with | [.i .i64 p0_0, .i .i64 p0_1, .i .i64 p0_2, .sl .row p1] => lil p1.length | _ => false, fun ds => match ds with | [.i .i64 p0_0, .i .i64 p0_1, .i .i64 p0_2, .sl .row p1] => some [(true, .b (belowB ⟨p0_0, p0_1, p0_2⟩ p1))] | _ => none⟩
theorem fg_i_below : Try.prog.funcs[76]? = some Try.f76 := by kernel_rfl
theorem c_i_below : Ctr Try.prog 76 F_i_below := by
  refine ctr_of_run (code := Try.f76.body.getD .skip) mixed fg_i_below (by kernel_rfl) (Nat.le_of_ble_eq_true (by kernel_rfl)) (Nat.le_of_ble_eq_true (by kernel_rfl)) fun ds out hd hr => ?_
  dsimp only [F_i_below] at hd hr
  split at hd
  · simp only [Option.some.injEq] at hr
    subst hr
    exact ⟨E_i_below BIG, tys_ok tysB_ok, FnsL.cons (fn_ok c_i_CompareRows) fg_i_CompareRows rfl rfl (FnsL.nil), rfl, by kernel_rfl, by kernel_rfl, run_i_below _ _ _ _ hd⟩
  · cases hd

def rowAt (l : List (List Row)) (n k : Nat) : Option Row := (l[n]?).bind fun r => r[k]?
def l13 (l : List (List Row)) (n k : Int) : List Row := (rowAt l n.toNat k.toNat).toList
def rc (l : List (List Row)) (n k : Int) : Int := if k < 0 then 0 else tot (l13 l n k)
theorem geti_some' {α : Type} {l : List α} {i : Int} (h0 : 0 ≤ i) : geti l i = l[i.toNat]? := by simp [geti, h0]
theorem lt_len {α : Type} {l : List α} {i : Int} (h0 : 0 ≤ i) : decide (i < (l.length : Int)) = (l[i.toNat]?).isSome := by
  cases h : l[i.toNat]? with
  | none => rw [List.getElem?_eq_none_iff] at h; simp <;> omega
  | some x => have := (List.getElem?_eq_some_iff.1 h).1; simp <;> omega
def E_s_l13Row (fuel : Nat) : Env := ⟨tys, [], [], fuel, 31, 0⟩
theorem top_s_l13Row (fuel : Nat) (p0 : List (List Row)) (p1 : Int) (p2 : Int) : runF (E_s_l13Row fuel) Try.f118 [.sl .run p0, .i .i64 p1, .i .i64 p2] =
 cond (decide (p1 < (p0.length : Int)))
 (Option.bind (geti p0 p1) fun e1 => cond (decide (p2 < (e1.length : Int)))
 (Option.bind (geti p0 p1) fun e2 => Option.bind (geti e2 p2) fun e3 => some [(true, .sl .row ([e3] : List Row))])
 (some [(true, .sl .row ([] : List Row))]))
 (some [(true, .sl .row ([] : List Row))]) := by kernel_rfl
theorem run_s_l13Row (l : List (List Row)) (n k : Int) (h : (decide (0 ≤ n) && decide (0 ≤ k)) = true) : runF (E_s_l13Row BIG) Try.f118 [.sl .run l, .i .i64 n, .i .i64 k] = some [(true, .sl .row (l13 l n k))] := by
  obtain ⟨h1, h2⟩ := (Bool.and_eq_true _ _).mp h
  have h1 := of_decide_eq_true h1
  have h2 := of_decide_eq_true h2
  rw [top_s_l13Row, lt_len h1]
  unfold l13 rowAt
  simp only [geti_some' h1, geti_some' h2]
  cases hr : l[n.toNat]? with
  | none => rfl
  | some r =>
    simp only [Option.isSome_some, cond_true, Option.bind_some, lt_len h2]
    cases hx : r[k.toNat]? with
    | none => rfl
    | some x => rfl
def F_s_l13Row : Ai.Fn := ⟨[(false, [.sl .run]), (false, [.sc]), (false, [.sc])], [(false, 1)], false, fun ds => match ds with | [.sl .run p0, .i .i64 p1, .i .i64 p2] => decide (0 ≤ p1) && decide (0 ≤ p2) | _ => false, fun ds => match ds with | [.sl .run p0, .i .i64 p1, .i .i64 p2] => some [(true, .sl .row (l13 p0 p1 p2))] | _ => none⟩
theorem fg_s_l13Row : Try.prog.funcs[118]? = some Try.f118 := by kernel_rfl
theorem c_s_l13Row : Ctr Try.prog 118 F_s_l13Row := by
  refine ctr_of_run (code := Try.f118.body.getD .skip) mixed fg_s_l13Row (by kernel_rfl) (Nat.le_of_ble_eq_true (by kernel_rfl)) (Nat.le_of_ble_eq_true (by kernel_rfl)) fun ds out hd hr => ?_
  dsimp only [F_s_l13Row] at hd hr
  split at hd
  · simp only [Option.some.injEq] at hr
    subst hr
    exact ⟨E_s_l13Row BIG, tys_ok tysB_ok, FnsL.nil, rfl, by kernel_rfl, by kernel_rfl, run_s_l13Row _ _ _ hd⟩
  · cases hd
def E_i_runCost (fuel : Nat) : Env := ⟨tys, [(134, callFn F_i_RowCost)], [], fuel, 37, 0⟩
theorem top_i_runCost (fuel : Nat) (p0_0 : List Row) (p0_1 : Int) (p0_2 : List Row) (p0_3 : List Row) (p0_4 : List Row) (p0_5 : List (List Row)) (p0_6 : Int) (p0_7 : Int) (p0_8 : Int) (p0_9 : Int) (p1 : Int) (p2 : Int) : runF (E_i_runCost fuel) Try.f121 [.sl .row p0_0, .i .i64 p0_1, .sl .row p0_2, .sl .row p0_3, .sl .row p0_4, .sl .run p0_5, .i .i64 p0_6, .i .i64 p0_7, .i .i64 p0_8, .i .i64 p0_9, .i .i64 p1, .i .i64 p2] =
 cond (decide (p1 ≥ (p0_5.length : Int)))
 (some [(true, .i .i64 0)])
 (cond (decide (p2 < 0))
 (some [(true, .i .i64 0)])
 (Option.bind (geti p0_5 p1) fun e1 => cond (decide (p2 ≥ (e1.length : Int)))
 (some [(true, .i .i64 0)])
 (Option.bind (geti p0_5 p1) fun e2 => Option.bind (geti e2 p2) fun e3 => some [(true, .i .i64 (cost e3))]))) := by kernel_rfl
theorem run_i_runCost (q0 : List Row) (q1 : Int) (q2 q3 q4 : List Row) (l : List (List Row)) (q6 q7 q8 q9 n k : Int) (h : decide (0 ≤ n) = true) : runF (E_i_runCost BIG) Try.f121 [.sl .row q0, .i .i64 q1, .sl .row q2, .sl .row q3, .sl .row q4, .sl .run l, .i .i64 q6, .i .i64 q7, .i .i64 q8, .i .i64 q9, .i .i64 n, .i .i64 k] = some [(true, .i .i64 (rc l n k))] := by
  have h1 := of_decide_eq_true h
  have e : ∀ {α : Type} (l : List α) (i : Int), decide (i ≥ (l.length : Int)) = !decide (i < (l.length : Int)) := fun l i => by
    by_cases h : i < (l.length : Int) <;> simp [h] <;> omega
  rw [top_i_runCost, e, lt_len h1]
  unfold rc l13 rowAt
  simp only [geti_some' h1]
  cases hr : l[n.toNat]? with
  | none => simp [tot]
  | some r =>
    simp only [Option.isSome_some, Bool.not_true, cond_false, Option.bind_some, e]
    by_cases hk : k < 0
    · rw [if_pos hk, cond_true' (by simpa using hk)]
    · have hk0 : 0 ≤ k := by omega
      rw [if_neg hk, cond_false' (by simpa using hk), lt_len hk0, geti_some' hk0]
      cases hx : r[k.toNat]? with
      | none => rfl
      | some x => simp [tot]
def F_i_runCost : Ai.Fn := ⟨[(true, [.sl .row, .sc, .sl .row, .sl .row, .sl .row, .sl .run, .sc, .sc, .sc, .sc]), (false, [.sc]), (false, [.sc])], [(false, 1)], false, fun ds => match ds with | [.sl .row p0_0, .i .i64 p0_1, .sl .row p0_2, .sl .row p0_3, .sl .row p0_4, .sl .run p0_5, .i .i64 p0_6, .i .i64 p0_7, .i .i64 p0_8, .i .i64 p0_9, .i .i64 p1, .i .i64 p2] => decide (0 ≤ p1) | _ => false, fun ds => match ds with | [.sl .row p0_0, .i .i64 p0_1, .sl .row p0_2, .sl .row p0_3, .sl .row p0_4, .sl .run p0_5, .i .i64 p0_6, .i .i64 p0_7, .i .i64 p0_8, .i .i64 p0_9, .i .i64 p1, .i .i64 p2] => some [(true, .i .i64 (rc p0_5 p1 p2))] | _ => none⟩
theorem fg_i_runCost : Try.prog.funcs[121]? = some Try.f121 := by kernel_rfl
theorem c_i_runCost : Ctr Try.prog 121 F_i_runCost := by
  refine ctr_of_run (code := Try.f121.body.getD .skip) mixed fg_i_runCost (by kernel_rfl) (Nat.le_of_ble_eq_true (by kernel_rfl)) (Nat.le_of_ble_eq_true (by kernel_rfl)) fun ds out hd hr => ?_
  dsimp only [F_i_runCost] at hd hr
  split at hd
  · simp only [Option.some.injEq] at hr
    subst hr
    exact ⟨E_i_runCost BIG, tys_ok tysB_ok, FnsL.cons (fn_ok c_i_RowCost) fg_i_RowCost rfl rfl (FnsL.nil), rfl, by kernel_rfl, by kernel_rfl, run_i_runCost _ _ _ _ _ _ _ _ _ _ _ _ hd⟩
  · cases hd
def mem (s : Srt) : Int := if s.phase = 1 then tot s.heap + tot s.defd else if s.phase = 2 then (if s.lp < 0 then 0 else if s.rp < 0 then 0 else rc s.runs 0 s.lp + rc s.runs 1 s.rp) else if s.phase = 3 then rc s.runs 0 s.lp else 0
theorem l13_len (l n k) : (l13 l n k).length ≤ 1 := by unfold l13; cases rowAt l n.toNat k.toNat <;> simp
theorem rc_bd (l n k) : 0 ≤ rc l n k ∧ rc l n k ≤ 4 := by
  unfold rc
  split
  · omega
  · have h1 := tot_bd (l13 l n k); have h2 := l13_len l n k; omega
def E_s_SorterMemory (fuel : Nat) : Env := ⟨tys, [(117, callFn F_s_TotalCost), (118, callFn F_s_l13Row)], [], fuel, 48, 0⟩
theorem top_s_SorterMemory (fuel : Nat) (p0_0 : List Row) (p0_1 : Int) (p0_2 : List Row) (p0_3 : List Row) (p0_4 : List Row) (p0_5 : List (List Row)) (p0_6 : Int) (p0_7 : Int) (p0_8 : Int) (p0_9 : Int) : runF (E_s_SorterMemory fuel) Try.f67 [.sl .row p0_0, .i .i64 p0_1, .sl .row p0_2, .sl .row p0_3, .sl .row p0_4, .sl .run p0_5, .i .i64 p0_6, .i .i64 p0_7, .i .i64 p0_8, .i .i64 p0_9] =
 cond (decide (p0_8 = 1))
 (cond (lil p0_2.length) (cond (lil p0_3.length) (some [(true, .i .i64 (IntKind.i64.wrap ((tot p0_2) + (tot p0_3))))]) none) none)
 (cond (decide (p0_8 = 2))
 (cond (decide (p0_6 < 0))
 (some [(true, .i .i64 0)])
 (cond (decide (p0_7 < 0))
 (some [(true, .i .i64 0)])
 (cond (decide (0 ≤ 0) && decide (0 ≤ p0_6)) (cond (lil (l13 p0_5 0 p0_6).length) (cond (decide (0 ≤ 1) && decide (0 ≤ p0_7)) (cond (lil (l13 p0_5 1 p0_7).length) (some [(true, .i .i64 (IntKind.i64.wrap ((tot (l13 p0_5 0 p0_6)) + (tot (l13 p0_5 1 p0_7)))))]) none) none) none) none)))
 (cond (decide (p0_8 = 3))
 (cond (decide (p0_6 < 0))
 (some [(true, .i .i64 0)])
 (cond (decide (0 ≤ 0) && decide (0 ≤ p0_6)) (cond (lil (l13 p0_5 0 p0_6).length) (some [(true, .i .i64 (tot (l13 p0_5 0 p0_6)))]) none) none))
 (some [(true, .i .i64 0)]))) := by kernel_rfl
def lilM (h d : List Row) : Bool := lil h.length && lil d.length
theorem run_s_SorterMemory (q0 : List Row) (q1 : Int) (q2 q3 q4 : List Row) (q5 : List (List Row)) (q6 q7 q8 q9 : Int) (h : lilM q2 q3 = true) : runF (E_s_SorterMemory BIG) Try.f67 [.sl .row q0, .i .i64 q1, .sl .row q2, .sl .row q3, .sl .row q4, .sl .run q5, .i .i64 q6, .i .i64 q7, .i .i64 q8, .i .i64 q9] = some [(true, .i .i64 (mem ⟨q0, q1, q2, q3, q4, q5, q6, q7, q8, q9⟩))] := by
  obtain ⟨h1, h2⟩ := (Bool.and_eq_true _ _).mp h
  have t1 := tot_bd q2
  have t2 := tot_bd q3
  have l1 := lil_iff.1 h1
  have l2 := lil_iff.1 h2
  rw [top_s_SorterMemory]
  unfold mem
  by_cases c1 : q8 = 1
  · rw [cond_true' (by simpa using c1), cond_true' h1, cond_true' h2, if_pos c1, wrap64 (by omega) (by omega)]
  · rw [cond_false' (by simpa using c1), if_neg c1]
    have hl : ∀ l n k, lil (l13 l n k).length = true := fun l n k => lil_iff.2 (by have := l13_len l n k; omega)
    by_cases c2 : q8 = 2
    · rw [cond_true' (by simpa using c2), if_pos c2]
      by_cases c3 : q6 < 0
      · rw [cond_true' (by simpa using c3), if_pos c3]
      · rw [cond_false' (by simpa using c3), if_neg c3]
        by_cases c4 : q7 < 0
        · rw [cond_true' (by simpa using c4), if_pos c4]
        · have b1 := rc_bd q5 0 q6
          have b2 := rc_bd q5 1 q7
          have e1 : tot (l13 q5 0 q6) = rc q5 0 q6 := by unfold rc; rw [if_neg c3]
          have e2 : tot (l13 q5 1 q7) = rc q5 1 q7 := by unfold rc; rw [if_neg c4]
          have a6 : 0 ≤ q6 := by omega
          have a7 : 0 ≤ q7 := by omega
          rw [cond_false' (by simpa using c4), if_neg c4]
          simp [a6, a7, hl, e1, e2]
          rw [wrap64 (by omega) (by omega)]
    · rw [cond_false' (by simpa using c2), if_neg c2]
      by_cases c3 : q8 = 3
      · rw [cond_true' (by simpa using c3), if_pos c3]
        by_cases c4 : q6 < 0
        · rw [cond_true' (by simpa using c4)]; unfold rc; rw [if_pos c4]
        · rw [cond_false' (by simpa using c4), cond_true' (by simp <;> omega), cond_true' (hl _ _ _)]; unfold rc; rw [if_neg c4]
      · rw [cond_false' (by simpa using c3), if_neg c3]
def F_s_SorterMemory : Ai.Fn := ⟨[(true, [.sl .row, .sc, .sl .row, .sl .row, .sl .row, .sl .run, .sc, .sc, .sc, .sc])], [(false, 1)], false, fun ds => match ds with | [.sl .row p0_0, .i .i64 p0_1, .sl .row p0_2, .sl .row p0_3, .sl .row p0_4, .sl .run p0_5, .i .i64 p0_6, .i .i64 p0_7, .i .i64 p0_8, .i .i64 p0_9] => lilM p0_2 p0_3 | _ => false, fun ds => match ds with | [.sl .row p0_0, .i .i64 p0_1, .sl .row p0_2, .sl .row p0_3, .sl .row p0_4, .sl .run p0_5, .i .i64 p0_6, .i .i64 p0_7, .i .i64 p0_8, .i .i64 p0_9] => some [(true, .i .i64 (mem ⟨p0_0, p0_1, p0_2, p0_3, p0_4, p0_5, p0_6, p0_7, p0_8, p0_9⟩))] | _ => none⟩
theorem fg_s_SorterMemory : Try.prog.funcs[67]? = some Try.f67 := by kernel_rfl
theorem c_s_SorterMemory : Ctr Try.prog 67 F_s_SorterMemory := by
  refine ctr_of_run (code := Try.f67.body.getD .skip) mixed fg_s_SorterMemory (by kernel_rfl) (Nat.le_of_ble_eq_true (by kernel_rfl)) (Nat.le_of_ble_eq_true (by kernel_rfl)) fun ds out hd hr => ?_
  dsimp only [F_s_SorterMemory] at hd hr
  split at hd
  · simp only [Option.some.injEq] at hr
    subst hr
    exact ⟨E_s_SorterMemory BIG, tys_ok tysB_ok, FnsL.cons (fn_ok c_s_TotalCost) fg_s_TotalCost rfl rfl (FnsL.cons (fn_ok c_s_l13Row) fg_s_l13Row rfl rfl (FnsL.nil)), rfl, by kernel_rfl, by kernel_rfl, run_s_SorterMemory _ _ _ _ _ _ _ _ _ _ hd⟩
  · cases hd
def E_i_SorterMemory (fuel : Nat) : Env := ⟨tys, [(120, callFn F_i_TotalCost), (121, callFn F_i_runCost)], [], fuel, 39, 0⟩
theorem top_i_SorterMemory (fuel : Nat) (p0_0 : List Row) (p0_1 : Int) (p0_2 : List Row) (p0_3 : List Row) (p0_4 : List Row) (p0_5 : List (List Row)) (p0_6 : Int) (p0_7 : Int) (p0_8 : Int) (p0_9 : Int) : runF (E_i_SorterMemory fuel) Try.f78 [.sl .row p0_0, .i .i64 p0_1, .sl .row p0_2, .sl .row p0_3, .sl .row p0_4, .sl .run p0_5, .i .i64 p0_6, .i .i64 p0_7, .i .i64 p0_8, .i .i64 p0_9] =
 cond (decide (p0_8 = 1))
 (cond (lil p0_2.length) (cond (lil p0_3.length) (some [(true, .i .i64 (IntKind.i64.wrap ((tot p0_2) + (tot p0_3))))]) none) none)
 (cond (decide (p0_8 = 2))
 (cond (decide (p0_6 < 0))
 (some [(true, .i .i64 0)])
 (cond (decide (p0_7 < 0))
 (some [(true, .i .i64 0)])
 (cond (decide (0 ≤ 0)) (cond (decide (0 ≤ 1)) (some [(true, .i .i64 (IntKind.i64.wrap ((rc p0_5 0 p0_6) + (rc p0_5 1 p0_7))))]) none) none)))
 (cond (decide (p0_8 = 3))
 (cond (decide (0 ≤ 0)) (some [(true, .i .i64 (rc p0_5 0 p0_6))]) none)
 (some [(true, .i .i64 0)]))) := by kernel_rfl
theorem run_i_SorterMemory (q0 : List Row) (q1 : Int) (q2 q3 q4 : List Row) (q5 : List (List Row)) (q6 q7 q8 q9 : Int) (h : lilM q2 q3 = true) : runF (E_i_SorterMemory BIG) Try.f78 [.sl .row q0, .i .i64 q1, .sl .row q2, .sl .row q3, .sl .row q4, .sl .run q5, .i .i64 q6, .i .i64 q7, .i .i64 q8, .i .i64 q9] = some [(true, .i .i64 (mem ⟨q0, q1, q2, q3, q4, q5, q6, q7, q8, q9⟩))] := by
  obtain ⟨h1, h2⟩ := (Bool.and_eq_true _ _).mp h
  have t1 := tot_bd q2
  have t2 := tot_bd q3
  have l1 := lil_iff.1 h1
  have l2 := lil_iff.1 h2
  rw [top_i_SorterMemory]
  unfold mem
  by_cases c1 : q8 = 1
  · rw [cond_true' (by simpa using c1), cond_true' h1, cond_true' h2, if_pos c1, wrap64 (by omega) (by omega)]
  · rw [cond_false' (by simpa using c1), if_neg c1]
    by_cases c2 : q8 = 2
    · rw [cond_true' (by simpa using c2), if_pos c2]
      by_cases c3 : q6 < 0
      · rw [cond_true' (by simpa using c3), if_pos c3]
      · rw [cond_false' (by simpa using c3), if_neg c3]
        by_cases c4 : q7 < 0
        · rw [cond_true' (by simpa using c4), if_pos c4]
        · have b1 := rc_bd q5 0 q6
          have b2 := rc_bd q5 1 q7
          rw [cond_false' (by simpa using c4), if_neg c4, cond_true' (by simp), cond_true' (by simp), wrap64 (by omega) (by omega)]
    · rw [cond_false' (by simpa using c2), if_neg c2]
      by_cases c3 : q8 = 3
      · rw [cond_true' (by simpa using c3), if_pos c3, cond_true' (by simp)]
      · rw [cond_false' (by simpa using c3), if_neg c3]
def F_i_SorterMemory : Ai.Fn := ⟨[(true, [.sl .row, .sc, .sl .row, .sl .row, .sl .row, .sl .run, .sc, .sc, .sc, .sc])], [(false, 1)], false, fun ds => match ds with | [.sl .row p0_0, .i .i64 p0_1, .sl .row p0_2, .sl .row p0_3, .sl .row p0_4, .sl .run p0_5, .i .i64 p0_6, .i .i64 p0_7, .i .i64 p0_8, .i .i64 p0_9] => lilM p0_2 p0_3 | _ => false, fun ds => match ds with | [.sl .row p0_0, .i .i64 p0_1, .sl .row p0_2, .sl .row p0_3, .sl .row p0_4, .sl .run p0_5, .i .i64 p0_6, .i .i64 p0_7, .i .i64 p0_8, .i .i64 p0_9] => some [(true, .i .i64 (mem ⟨p0_0, p0_1, p0_2, p0_3, p0_4, p0_5, p0_6, p0_7, p0_8, p0_9⟩))] | _ => none⟩
theorem fg_i_SorterMemory : Try.prog.funcs[78]? = some Try.f78 := by kernel_rfl
theorem c_i_SorterMemory : Ctr Try.prog 78 F_i_SorterMemory := by
  refine ctr_of_run (code := Try.f78.body.getD .skip) mixed fg_i_SorterMemory (by kernel_rfl) (Nat.le_of_ble_eq_true (by kernel_rfl)) (Nat.le_of_ble_eq_true (by kernel_rfl)) fun ds out hd hr => ?_
  dsimp only [F_i_SorterMemory] at hd hr
  split at hd
  · simp only [Option.some.injEq] at hr
    subst hr
    exact ⟨E_i_SorterMemory BIG, tys_ok tysB_ok, FnsL.cons (fn_ok c_i_TotalCost) fg_i_TotalCost rfl rfl (FnsL.cons (fn_ok c_i_runCost) fg_i_runCost rfl rfl (FnsL.nil)), rfl, by kernel_rfl, by kernel_rfl, run_i_SorterMemory _ _ _ _ _ _ _ _ _ _ hd⟩
  · cases hd

/- Valid sorters. -/
def lilS (s : Srt) : Bool := lil s.input.length && lil s.heap.length && lil s.defd.length && lil s.outp.length && lilRuns s.runs
def vPhase (s : Srt) : Bool :=
  if s.phase = 1 then decide (s.lp = 0) && decide (s.rp = 0) && (!s.outp.isEmpty || s.defd.isEmpty) && decide (mem s ≤ 60) && eqBag (s.runs.flatten ++ s.outp ++ s.heap ++ s.defd) (s.input.take s.pos.toNat)
  else decide (s.pos = s.input.length) && s.heap.isEmpty && s.defd.isEmpty && eqBag s.runs.flatten s.input &&
    (if s.phase = 2 then match s.runs with
      | a :: b :: _ => inB s.lp 0 a.length && inB s.rp 0 b.length && decide (s.outp = mergeS (a.take s.lp.toNat) (b.take s.rp.toNat)) && decide (s.outp = (mergeS a b).take (s.lp + s.rp).toNat)
      | _ => false
    else if s.phase = 3 then decide (s.runs.length = 1) && inB s.lp 0 (s.input.length - 1) && decide (s.rp = 0) && s.outp.isEmpty
    else if s.phase = 4 then decide (s.runs.length ≤ 1) && decide (s.lp = s.input.length) && decide (s.rp = 0) && s.outp.isEmpty
    else false)
def vSorter (s : Srt) : Bool := vRows s.input && inB s.pos 0 s.input.length && s.runs.all vRun && decide (0 ≤ s.wr) && sortedB s.outp && s.heap.all (fun r => !belowB r s.outp) && vPhase s
theorem inB_iff {x a b : Int} : inB x a b = true ↔ a ≤ x ∧ x ≤ b := by simp [inB]
theorem vRun_len {r : List Row} (h : vRun r = true) : 0 < r.length ∧ r.length ≤ 24 := by
  simp only [vRun, vRows, Bool.and_eq_true, decide_eq_true_eq] at h
  refine ⟨?_, h.2.2⟩
  cases r <;> simp at h ⊢
theorem gt0 {α : Type} (l : List α) : decide ((l.length : Int) > 0) = !l.isEmpty := by cases l <;> simp <;> omega
theorem cB {b : Bool} {α : Type} {x y : α} (h : b = true → x = y) (h' : b = false → y = x) : True := trivial
def E_s_IsValidSorter (fuel : Nat) : Env := ⟨tys, [(26, callFn F_s_AreValidRows), (28, callFn F_s_l6Rows), (62, callFn F_s_l1In), (63, callFn F_s_AreValidRuns), (64, callFn F_s_IsSorted), (65, callFn F_s_CompareRows), (66, callFn F_s_FlattenRuns), (67, callFn F_s_SorterMemory), (68, callFn F_s_EqualBags), (69, callFn F_s_MergeSorted)], [(0, ([(1, .bx 260 [none, none, none, none, none, none, none, none, none, none]), (3, .p), (4, .p)], 261))], fuel, 260, 0⟩
noncomputable def X_s_IsValidSorter_0 (fuel : Nat) (n : Nat)  (v1_0 : List Row) (v1_1 : Int) (v1_2 : List Row) (v1_3 : List Row) (v1_4 : List Row) (v1_5 : List (List Row)) (v1_6 : Int) (v1_7 : Int) (v1_8 : Int) (v1_9 : Int) (v3 : Int) (v4 : Int) : Res := loopF (E_s_IsValidSorter fuel) Try.f25 [1, 1, 1, 0, 1] [] n ⟨upds (fun _ => cU) [(1, .av (.one (.bp 260 0))), (260, .box [.d (.sl .row v1_0), .d (.i .i64 v1_1), .d (.sl .row v1_2), .d (.sl .row v1_3), .d (.sl .row v1_4), .d (.sl .run v1_5), .d (.i .i64 v1_6), .d (.i .i64 v1_7), .d (.i .i64 v1_8), .d (.i .i64 v1_9)]), (3, .av (.one (.d (.i .i64 v3)))), (4, .av (.one (.d (.i .i64 v4))))], 261⟩
theorem top_s_IsValidSorter (fuel : Nat) (p0_0 : List Row) (p0_1 : Int) (p0_2 : List Row) (p0_3 : List Row) (p0_4 : List Row) (p0_5 : List (List Row)) (p0_6 : Int) (p0_7 : Int) (p0_8 : Int) (p0_9 : Int) : runF (E_s_IsValidSorter fuel) Try.f25 [.sl .row p0_0, .i .i64 p0_1, .sl .row p0_2, .sl .row p0_3, .sl .row p0_4, .sl .run p0_5, .i .i64 p0_6, .i .i64 p0_7, .i .i64 p0_8, .i .i64 p0_9] =
 cond (lil p0_0.length) (cond (!(vRows p0_0))
 (some [(true, .b false)])
 (cond (!(r_s_l1In_0 p0_1 0 (p0_0.length : Int)))
 (some [(true, .b false)])
 (cond (lilRuns p0_5) (cond (!(p0_5.all vRun))
 (some [(true, .b false)])
 (cond (decide (p0_9 < 0))
 (some [(true, .b false)])
 (cond (lil p0_4.length) (cond (!(sortedB p0_4))
 (some [(true, .b false)])
 (X_s_IsValidSorter_0 fuel fuel p0_0 p0_1 p0_2 p0_3 p0_4 p0_5 p0_6 p0_7 p0_8 p0_9 (IntKind.i64.wrap ((p0_4.length : Int) - 1)) 0)) none))) none))) none := by kernel_rfl
theorem st_s_IsValidSorter_0 (fuel : Nat) (n : Nat)  (v1_0 : List Row) (v1_1 : Int) (v1_2 : List Row) (v1_3 : List Row) (v1_4 : List Row) (v1_5 : List (List Row)) (v1_6 : Int) (v1_7 : Int) (v1_8 : Int) (v1_9 : Int) (v3 : Int) (v4 : Int) : X_s_IsValidSorter_0 fuel (n + 1) v1_0 v1_1 v1_2 v1_3 v1_4 v1_5 v1_6 v1_7 v1_8 v1_9 v3 v4 =
 cond (decide (v4 < (v1_2.length : Int)))
 (cond (decide (v3 ≥ 0))
 (Option.bind (geti v1_2 v4) fun e1 => Option.bind (geti v1_4 v3) fun e2 => cond (decide ((cmpR e1 e2) < 0))
 (some [(true, .b false)])
 (X_s_IsValidSorter_0 fuel n v1_0 v1_1 v1_2 v1_3 v1_4 v1_5 v1_6 v1_7 v1_8 v1_9 v3 (IntKind.i64.wrap (v4 + 1))))
 (X_s_IsValidSorter_0 fuel n v1_0 v1_1 v1_2 v1_3 v1_4 v1_5 v1_6 v1_7 v1_8 v1_9 v3 (IntKind.i64.wrap (v4 + 1))))
 (cond (decide (v1_8 = 1))
 (cond (lilRuns v1_5) (cond (lim (v1_5.flatten.length + v1_4.length)) (cond (lim ((v1_5.flatten ++ v1_4).length + v1_2.length)) (cond (lim (((v1_5.flatten ++ v1_4) ++ v1_2).length + v1_3.length)) (cond (decide (v1_6 = 0))
 (cond (decide (v1_7 = 0))
 (cond (decide ((v1_3.length : Int) = 0))
 (cond (lilM v1_2 v1_3) (cond (decide ((mem ⟨v1_0, v1_1, v1_2, v1_3, v1_4, v1_5, v1_6, v1_7, v1_8, v1_9⟩) ≤ 60))
 (cond (decide (0 ≤ v1_1) && decide (v1_1 ≤ (v1_0.length : Int))) (cond (lil (((v1_5.flatten ++ v1_4) ++ v1_2) ++ v1_3).length && lil (v1_0.take v1_1.toNat).length) (some [(true, .b (eqBag (((v1_5.flatten ++ v1_4) ++ v1_2) ++ v1_3) (v1_0.take v1_1.toNat)))]) none) none)
 (some [(true, .b false)])) none)
 (cond (decide (v3 ≥ 0))
 (cond (lilM v1_2 v1_3) (cond (decide ((mem ⟨v1_0, v1_1, v1_2, v1_3, v1_4, v1_5, v1_6, v1_7, v1_8, v1_9⟩) ≤ 60))
 (cond (decide (0 ≤ v1_1) && decide (v1_1 ≤ (v1_0.length : Int))) (cond (lil (((v1_5.flatten ++ v1_4) ++ v1_2) ++ v1_3).length && lil (v1_0.take v1_1.toNat).length) (some [(true, .b (eqBag (((v1_5.flatten ++ v1_4) ++ v1_2) ++ v1_3) (v1_0.take v1_1.toNat)))]) none) none)
 (some [(true, .b false)])) none)
 (some [(true, .b false)])))
 (some [(true, .b false)]))
 (some [(true, .b false)])) none) none) none) none)
 (cond (!decide (v1_1 = (v1_0.length : Int)))
 (some [(true, .b false)])
 (cond (decide ((IntKind.i64.wrap ((v1_2.length : Int) + (v1_3.length : Int))) > 0))
 (some [(true, .b false)])
 (cond (decide (v1_8 = 2))
 (cond (decide ((v1_5.length : Int) < 2))
 (some [(true, .b false)])
 (Option.bind (geti v1_5 0) fun e3 => cond (!(r_s_l1In_0 v1_6 0 (e3.length : Int)))
 (some [(true, .b false)])
 (Option.bind (geti v1_5 1) fun e4 => cond (!(r_s_l1In_0 v1_7 0 (e4.length : Int)))
 (some [(true, .b false)])
 (Option.bind (geti v1_5 0) fun e5 => cond (decide (0 ≤ v1_6) && decide (v1_6 ≤ (e5.length : Int))) (Option.bind (geti v1_5 1) fun e6 => cond (decide (0 ≤ v1_7) && decide (v1_7 ≤ (e6.length : Int))) (cond (lil ((e5.take v1_6.toNat).length + (e6.take v1_7.toNat).length)) (Option.bind (geti v1_5 0) fun e7 => Option.bind (geti v1_5 1) fun e8 => cond (lil (e7.length + e8.length)) (cond (decide (0 ≤ (IntKind.i64.wrap (v1_6 + v1_7))) && decide ((IntKind.i64.wrap (v1_6 + v1_7)) ≤ ((mergeS e7 e8).length : Int))) (cond (lil v1_4.length) (cond (decide (v1_4 = ((mergeS e7 e8).take ((IntKind.i64.wrap (v1_6 + v1_7)).toNat))))
 (cond (lil (mergeS (e5.take v1_6.toNat) (e6.take v1_7.toNat)).length) (cond (decide ((mergeS (e5.take v1_6.toNat) (e6.take v1_7.toNat)) = v1_4))
 (cond (lilRuns v1_5) (cond (lil v1_5.flatten.length && lil v1_0.length) (some [(true, .b (eqBag v1_5.flatten v1_0))]) none) none)
 (some [(true, .b false)])) none)
 (some [(true, .b false)])) none) none) none) none) none) none))))
 (cond (decide ((v1_5.length : Int) > 1))
 (some [(true, .b false)])
 (cond (!decide (v1_7 = 0))
 (some [(true, .b false)])
 (cond (decide ((v1_4.length : Int) > 0))
 (some [(true, .b false)])
 (cond (lilRuns v1_5) (cond (lil v1_5.flatten.length && lil v1_0.length) (cond (!(eqBag v1_5.flatten v1_0))
 (some [(true, .b false)])
 (cond (decide (v1_8 = 3))
 (cond (decide ((v1_5.length : Int) = 1))
 (some [(true, .b (r_s_l1In_0 v1_6 0 (IntKind.i64.wrap ((v1_0.length : Int) - 1))))])
 (some [(true, .b false)]))
 (cond (decide (v1_8 = 4))
 (some [(true, .b (decide (v1_6 = (v1_0.length : Int))))])
 (some [(true, .b false)])))) none) none)))))))) := by kernel_rfl
noncomputable def R_s_IsValidSorter_0 (fuel : Nat) (v1_2 : List Row) : List Row → Int → List Row → Int → List Row → List Row → List (List Row) → Int → Int → Int → Int → Int → Res
  | [], v4, v1_0, v1_1, v1_3, v1_4, v1_5, v1_6, v1_7, v1_8, v1_9, v3 => cond (decide (v1_8 = 1))
       (cond (lilRuns v1_5) (cond (lim (v1_5.flatten.length + v1_4.length)) (cond (lim ((v1_5.flatten ++ v1_4).length + v1_2.length)) (cond (lim (((v1_5.flatten ++ v1_4) ++ v1_2).length + v1_3.length)) (cond (decide (v1_6 = 0))
       (cond (decide (v1_7 = 0))
       (cond (decide ((v1_3.length : Int) = 0))
       (cond (lilM v1_2 v1_3) (cond (decide ((mem ⟨v1_0, v1_1, v1_2, v1_3, v1_4, v1_5, v1_6, v1_7, v1_8, v1_9⟩) ≤ 60))
       (cond (decide (0 ≤ v1_1) && decide (v1_1 ≤ (v1_0.length : Int))) (cond (lil (((v1_5.flatten ++ v1_4) ++ v1_2) ++ v1_3).length && lil (v1_0.take v1_1.toNat).length) (some [(true, .b (eqBag (((v1_5.flatten ++ v1_4) ++ v1_2) ++ v1_3) (v1_0.take v1_1.toNat)))]) none) none)
       (some [(true, .b false)])) none)
       (cond (decide (v3 ≥ 0))
       (cond (lilM v1_2 v1_3) (cond (decide ((mem ⟨v1_0, v1_1, v1_2, v1_3, v1_4, v1_5, v1_6, v1_7, v1_8, v1_9⟩) ≤ 60))
       (cond (decide (0 ≤ v1_1) && decide (v1_1 ≤ (v1_0.length : Int))) (cond (lil (((v1_5.flatten ++ v1_4) ++ v1_2) ++ v1_3).length && lil (v1_0.take v1_1.toNat).length) (some [(true, .b (eqBag (((v1_5.flatten ++ v1_4) ++ v1_2) ++ v1_3) (v1_0.take v1_1.toNat)))]) none) none)
       (some [(true, .b false)])) none)
       (some [(true, .b false)])))
       (some [(true, .b false)]))
       (some [(true, .b false)])) none) none) none) none)
       (cond (!decide (v1_1 = (v1_0.length : Int)))
       (some [(true, .b false)])
       (cond (decide ((IntKind.i64.wrap ((v1_2.length : Int) + (v1_3.length : Int))) > 0))
       (some [(true, .b false)])
       (cond (decide (v1_8 = 2))
       (cond (decide ((v1_5.length : Int) < 2))
       (some [(true, .b false)])
       (Option.bind (geti v1_5 0) fun e3 => cond (!(r_s_l1In_0 v1_6 0 (e3.length : Int)))
       (some [(true, .b false)])
       (Option.bind (geti v1_5 1) fun e4 => cond (!(r_s_l1In_0 v1_7 0 (e4.length : Int)))
       (some [(true, .b false)])
       (Option.bind (geti v1_5 0) fun e5 => cond (decide (0 ≤ v1_6) && decide (v1_6 ≤ (e5.length : Int))) (Option.bind (geti v1_5 1) fun e6 => cond (decide (0 ≤ v1_7) && decide (v1_7 ≤ (e6.length : Int))) (cond (lil ((e5.take v1_6.toNat).length + (e6.take v1_7.toNat).length)) (Option.bind (geti v1_5 0) fun e7 => Option.bind (geti v1_5 1) fun e8 => cond (lil (e7.length + e8.length)) (cond (decide (0 ≤ (IntKind.i64.wrap (v1_6 + v1_7))) && decide ((IntKind.i64.wrap (v1_6 + v1_7)) ≤ ((mergeS e7 e8).length : Int))) (cond (lil v1_4.length) (cond (decide (v1_4 = ((mergeS e7 e8).take ((IntKind.i64.wrap (v1_6 + v1_7)).toNat))))
       (cond (lil (mergeS (e5.take v1_6.toNat) (e6.take v1_7.toNat)).length) (cond (decide ((mergeS (e5.take v1_6.toNat) (e6.take v1_7.toNat)) = v1_4))
       (cond (lilRuns v1_5) (cond (lil v1_5.flatten.length && lil v1_0.length) (some [(true, .b (eqBag v1_5.flatten v1_0))]) none) none)
       (some [(true, .b false)])) none)
       (some [(true, .b false)])) none) none) none) none) none) none))))
       (cond (decide ((v1_5.length : Int) > 1))
       (some [(true, .b false)])
       (cond (!decide (v1_7 = 0))
       (some [(true, .b false)])
       (cond (decide ((v1_4.length : Int) > 0))
       (some [(true, .b false)])
       (cond (lilRuns v1_5) (cond (lil v1_5.flatten.length && lil v1_0.length) (cond (!(eqBag v1_5.flatten v1_0))
       (some [(true, .b false)])
       (cond (decide (v1_8 = 3))
       (cond (decide ((v1_5.length : Int) = 1))
       (some [(true, .b (r_s_l1In_0 v1_6 0 (IntKind.i64.wrap ((v1_0.length : Int) - 1))))])
       (some [(true, .b false)]))
       (cond (decide (v1_8 = 4))
       (some [(true, .b (decide (v1_6 = (v1_0.length : Int))))])
       (some [(true, .b false)])))) none) none)))))))
  | e0 :: r, v4, v1_0, v1_1, v1_3, v1_4, v1_5, v1_6, v1_7, v1_8, v1_9, v3 => cond (decide (v3 ≥ 0))
       (Option.bind (geti v1_4 v3) fun e2 => cond (decide ((cmpR e0 e2) < 0))
       (some [(true, .b false)])
       (R_s_IsValidSorter_0 fuel v1_2 r (v4 + 1) v1_0 v1_1 v1_3 v1_4 v1_5 v1_6 v1_7 v1_8 v1_9 v3))
       (R_s_IsValidSorter_0 fuel v1_2 r (v4 + 1) v1_0 v1_1 v1_3 v1_4 v1_5 v1_6 v1_7 v1_8 v1_9 v3)
theorem lp_s_IsValidSorter_0 (fuel : Nat) (v1_2 : List Row) (hl : v1_2.length < 1099511627776) : ∀ (suf pre : List Row) (n : Nat) (v4 : Int) (v1_0 : List Row) (v1_1 : Int) (v1_3 : List Row) (v1_4 : List Row) (v1_5 : List (List Row)) (v1_6 : Int) (v1_7 : Int) (v1_8 : Int) (v1_9 : Int) (v3 : Int), v1_2 = pre ++ suf → v4 = pre.length → suf.length < n → X_s_IsValidSorter_0 fuel n v1_0 v1_1 v1_2 v1_3 v1_4 v1_5 v1_6 v1_7 v1_8 v1_9 v3 v4 = R_s_IsValidSorter_0 fuel v1_2 suf v4 v1_0 v1_1 v1_3 v1_4 v1_5 v1_6 v1_7 v1_8 v1_9 v3
  | [], pre, n, v4, v1_0, v1_1, v1_3, v1_4, v1_5, v1_6, v1_7, v1_8, v1_9, v3, h, hi, hn => by
    obtain ⟨k, rfl, -⟩ := bump hn
    rw [st_s_IsValidSorter_0, cond_false' (at_end h hi)]
    rfl
  | e0 :: suf, pre, n, v4, v1_0, v1_1, v1_3, v1_4, v1_5, v1_6, v1_7, v1_8, v1_9, v3, h, hi, hn => by
    obtain ⟨k, rfl, hk⟩ := bump hn
    have ih := fun (q_v1_0 : List Row) (q_v1_1 : Int) (q_v1_3 : List Row) (q_v1_4 : List Row) (q_v1_5 : List (List Row)) (q_v1_6 : Int) (q_v1_7 : Int) (q_v1_8 : Int) (q_v1_9 : Int) (q_v3 : Int) => lp_s_IsValidSorter_0 fuel v1_2 hl suf (pre ++ [e0]) k (v4 + 1) q_v1_0 q_v1_1 q_v1_3 q_v1_4 q_v1_5 q_v1_6 q_v1_7 q_v1_8 q_v1_9 q_v3 (at_step h) (at_idx hi) hk
    rw [st_s_IsValidSorter_0, cond_true' (at_mid h hi)]
    simp only [at_get h hi, at_arr h hi, at_chk h hi, cond_true, Option.bind_some, at_next' h hi hl, ih]
    rfl
def E_i_IsValidSorter (fuel : Nat) : Env := ⟨tys, [(33, callFn F_i_AreValidRows), (35, callFn F_i_equal), (73, callFn F_i_within), (74, callFn F_i_AreValidRuns), (75, callFn F_i_IsSorted), (76, callFn F_i_below), (77, callFn F_i_FlattenRuns), (78, callFn F_i_SorterMemory), (79, callFn F_i_EqualBags), (80, callFn F_i_together), (81, callFn F_i_MergeSorted)], [(0, ([(3, .bx 234 [none, none, none, none, none, none, none, none, none, none]), (41, .p), (42, .p), (43, .p)], 235))], fuel, 234, 0⟩
noncomputable def X_i_IsValidSorter_0 (fuel : Nat) (n : Nat)  (v3_0 : List Row) (v3_1 : Int) (v3_2 : List Row) (v3_3 : List Row) (v3_4 : List Row) (v3_5 : List (List Row)) (v3_6 : Int) (v3_7 : Int) (v3_8 : Int) (v3_9 : Int) (v41 : List Row) (v42 : Int) (v43 : Int) : Res := loopF (E_i_IsValidSorter fuel) Try.f32 [1, 1, 1, 0, 1] [] n ⟨upds (fun _ => cU) [(3, .av (.one (.bp 234 0))), (234, .box [.d (.sl .row v3_0), .d (.i .i64 v3_1), .d (.sl .row v3_2), .d (.sl .row v3_3), .d (.sl .row v3_4), .d (.sl .run v3_5), .d (.i .i64 v3_6), .d (.i .i64 v3_7), .d (.i .i64 v3_8), .d (.i .i64 v3_9)]), (41, .av (.one (.d (.sl .row v41)))), (42, .av (.one (.d (.i .i64 v42)))), (43, .av (.one (.d (.i .i64 v43))))], 235⟩
theorem top_i_IsValidSorter (fuel : Nat) (p0_0 : List Row) (p0_1 : Int) (p0_2 : List Row) (p0_3 : List Row) (p0_4 : List Row) (p0_5 : List (List Row)) (p0_6 : Int) (p0_7 : Int) (p0_8 : Int) (p0_9 : Int) : runF (E_i_IsValidSorter fuel) Try.f32 [.sl .row p0_0, .i .i64 p0_1, .sl .row p0_2, .sl .row p0_3, .sl .row p0_4, .sl .run p0_5, .i .i64 p0_6, .i .i64 p0_7, .i .i64 p0_8, .i .i64 p0_9] =
 cond (lil p0_0.length) (cond (!(vRows p0_0))
 (some [(true, .b false)])
 (cond (!(r_i_within_0 p0_1 0 (p0_0.length : Int)))
 (some [(true, .b false)])
 (cond (lilRuns p0_5) (cond (!(p0_5.all vRun))
 (some [(true, .b false)])
 (cond (decide (p0_9 < 0))
 (some [(true, .b false)])
 (cond (lil p0_4.length) (cond (!(sortedB p0_4))
 (some [(true, .b false)])
 (X_i_IsValidSorter_0 fuel fuel p0_0 p0_1 p0_2 p0_3 p0_4 p0_5 p0_6 p0_7 p0_8 p0_9 p0_2 (p0_2.length : Int) 0)) none))) none))) none := by kernel_rfl
theorem st_i_IsValidSorter_0 (fuel : Nat) (n : Nat)  (v3_0 : List Row) (v3_1 : Int) (v3_2 : List Row) (v3_3 : List Row) (v3_4 : List Row) (v3_5 : List (List Row)) (v3_6 : Int) (v3_7 : Int) (v3_8 : Int) (v3_9 : Int) (v41 : List Row) (v42 : Int) (v43 : Int) : X_i_IsValidSorter_0 fuel (n + 1) v3_0 v3_1 v3_2 v3_3 v3_4 v3_5 v3_6 v3_7 v3_8 v3_9 v41 v42 v43 =
 cond (decide (v43 < v42))
 (Option.bind (geti v41 v43) fun e1 => cond (lil v3_4.length) (cond (belowB e1 v3_4)
 (some [(true, .b false)])
 (X_i_IsValidSorter_0 fuel n v3_0 v3_1 v3_2 v3_3 v3_4 v3_5 v3_6 v3_7 v3_8 v3_9 v41 v42 (IntKind.i64.wrap (v43 + 1)))) none)
 (cond (lilRuns v3_5) (cond (decide (v3_8 = 1))
 (cond (decide (v3_6 = 0))
 (cond (decide (v3_7 = 0))
 (cond (decide ((v3_4.length : Int) > 0))
 (cond (lilM v3_2 v3_3) (cond (decide ((mem ⟨v3_0, v3_1, v3_2, v3_3, v3_4, v3_5, v3_6, v3_7, v3_8, v3_9⟩) ≤ 60))
 (cond (lilRuns ([v3_5.flatten, v3_4, v3_2, v3_3] : List (List Row))) (cond (decide (0 ≤ v3_1) && decide (v3_1 ≤ (v3_0.length : Int))) (cond (decide ((v3_0.take v3_1.toNat).length ≤ 39)) (some [(true, .b (eqBag (([v3_5.flatten, v3_4, v3_2, v3_3] : List (List Row)).flatten) (v3_0.take v3_1.toNat)))]) none) none) none)
 (some [(true, .b false)])) none)
 (cond (decide ((v3_3.length : Int) = 0))
 (cond (lilM v3_2 v3_3) (cond (decide ((mem ⟨v3_0, v3_1, v3_2, v3_3, v3_4, v3_5, v3_6, v3_7, v3_8, v3_9⟩) ≤ 60))
 (cond (lilRuns ([v3_5.flatten, v3_4, v3_2, v3_3] : List (List Row))) (cond (decide (0 ≤ v3_1) && decide (v3_1 ≤ (v3_0.length : Int))) (cond (decide ((v3_0.take v3_1.toNat).length ≤ 39)) (some [(true, .b (eqBag (([v3_5.flatten, v3_4, v3_2, v3_3] : List (List Row)).flatten) (v3_0.take v3_1.toNat)))]) none) none) none)
 (some [(true, .b false)])) none)
 (some [(true, .b false)])))
 (some [(true, .b false)]))
 (some [(true, .b false)]))
 (cond (!decide (v3_1 = (v3_0.length : Int)))
 (some [(true, .b false)])
 (cond (decide ((v3_2.length : Int) > 0))
 (some [(true, .b false)])
 (cond (decide ((v3_3.length : Int) > 0))
 (some [(true, .b false)])
 (cond (decide (v3_0.length ≤ 39)) (cond (!(eqBag v3_5.flatten v3_0))
 (some [(true, .b false)])
 (cond (decide (v3_8 = 2))
 (cond (decide ((v3_5.length : Int) < 2))
 (some [(true, .b false)])
 (Option.bind (geti v3_5 0) fun e2 => Option.bind (geti v3_5 1) fun e3 => cond (!(r_i_within_0 v3_6 0 (e2.length : Int)))
 (some [(true, .b false)])
 (cond (!(r_i_within_0 v3_7 0 (e3.length : Int)))
 (some [(true, .b false)])
 (cond (decide (0 ≤ v3_6) && decide (v3_6 ≤ (e2.length : Int))) (cond (decide (0 ≤ v3_7) && decide (v3_7 ≤ (e3.length : Int))) (cond (lil ((e2.take v3_6.toNat).length + (e3.take v3_7.toNat).length)) (cond (lil v3_4.length) (cond (decide (v3_4 = (mergeS (e2.take v3_6.toNat) (e3.take v3_7.toNat))))
 (cond (lil (e2.length + e3.length)) (cond (decide (0 ≤ (IntKind.i64.wrap (v3_6 + v3_7))) && decide ((IntKind.i64.wrap (v3_6 + v3_7)) ≤ ((mergeS e2 e3).length : Int))) (cond (lil v3_4.length) (some [(true, .b (decide (v3_4 = ((mergeS e2 e3).take ((IntKind.i64.wrap (v3_6 + v3_7)).toNat)))))]) none) none) none)
 (some [(true, .b false)])) none) none) none) none))))
 (cond (decide (v3_8 = 3))
 (cond (decide ((v3_5.length : Int) = 1))
 (cond (r_i_within_0 v3_6 0 (IntKind.i64.wrap ((v3_0.length : Int) - 1)))
 (cond (decide (v3_7 = 0))
 (some [(true, .b (decide ((v3_4.length : Int) = 0)))])
 (some [(true, .b false)]))
 (some [(true, .b false)]))
 (some [(true, .b false)]))
 (cond (decide (v3_8 = 4))
 (cond (decide ((v3_5.length : Int) ≤ 1))
 (cond (decide (v3_6 = (v3_0.length : Int)))
 (cond (decide (v3_7 = 0))
 (some [(true, .b (decide ((v3_4.length : Int) = 0)))])
 (some [(true, .b false)]))
 (some [(true, .b false)]))
 (some [(true, .b false)]))
 (some [(true, .b false)]))))) none))))) none) := by kernel_rfl
noncomputable def R_i_IsValidSorter_0 (fuel : Nat) (v41 : List Row) : List Row → Int → List Row → Int → List Row → List Row → List Row → List (List Row) → Int → Int → Int → Int → Res
  | [], v43, v3_0, v3_1, v3_2, v3_3, v3_4, v3_5, v3_6, v3_7, v3_8, v3_9 => cond (lilRuns v3_5) (cond (decide (v3_8 = 1))
       (cond (decide (v3_6 = 0))
       (cond (decide (v3_7 = 0))
       (cond (decide ((v3_4.length : Int) > 0))
       (cond (lilM v3_2 v3_3) (cond (decide ((mem ⟨v3_0, v3_1, v3_2, v3_3, v3_4, v3_5, v3_6, v3_7, v3_8, v3_9⟩) ≤ 60))
       (cond (lilRuns ([v3_5.flatten, v3_4, v3_2, v3_3] : List (List Row))) (cond (decide (0 ≤ v3_1) && decide (v3_1 ≤ (v3_0.length : Int))) (cond (decide ((v3_0.take v3_1.toNat).length ≤ 39)) (some [(true, .b (eqBag (([v3_5.flatten, v3_4, v3_2, v3_3] : List (List Row)).flatten) (v3_0.take v3_1.toNat)))]) none) none) none)
       (some [(true, .b false)])) none)
       (cond (decide ((v3_3.length : Int) = 0))
       (cond (lilM v3_2 v3_3) (cond (decide ((mem ⟨v3_0, v3_1, v3_2, v3_3, v3_4, v3_5, v3_6, v3_7, v3_8, v3_9⟩) ≤ 60))
       (cond (lilRuns ([v3_5.flatten, v3_4, v3_2, v3_3] : List (List Row))) (cond (decide (0 ≤ v3_1) && decide (v3_1 ≤ (v3_0.length : Int))) (cond (decide ((v3_0.take v3_1.toNat).length ≤ 39)) (some [(true, .b (eqBag (([v3_5.flatten, v3_4, v3_2, v3_3] : List (List Row)).flatten) (v3_0.take v3_1.toNat)))]) none) none) none)
       (some [(true, .b false)])) none)
       (some [(true, .b false)])))
       (some [(true, .b false)]))
       (some [(true, .b false)]))
       (cond (!decide (v3_1 = (v3_0.length : Int)))
       (some [(true, .b false)])
       (cond (decide ((v3_2.length : Int) > 0))
       (some [(true, .b false)])
       (cond (decide ((v3_3.length : Int) > 0))
       (some [(true, .b false)])
       (cond (decide (v3_0.length ≤ 39)) (cond (!(eqBag v3_5.flatten v3_0))
       (some [(true, .b false)])
       (cond (decide (v3_8 = 2))
       (cond (decide ((v3_5.length : Int) < 2))
       (some [(true, .b false)])
       (Option.bind (geti v3_5 0) fun e2 => Option.bind (geti v3_5 1) fun e3 => cond (!(r_i_within_0 v3_6 0 (e2.length : Int)))
       (some [(true, .b false)])
       (cond (!(r_i_within_0 v3_7 0 (e3.length : Int)))
       (some [(true, .b false)])
       (cond (decide (0 ≤ v3_6) && decide (v3_6 ≤ (e2.length : Int))) (cond (decide (0 ≤ v3_7) && decide (v3_7 ≤ (e3.length : Int))) (cond (lil ((e2.take v3_6.toNat).length + (e3.take v3_7.toNat).length)) (cond (lil v3_4.length) (cond (decide (v3_4 = (mergeS (e2.take v3_6.toNat) (e3.take v3_7.toNat))))
       (cond (lil (e2.length + e3.length)) (cond (decide (0 ≤ (IntKind.i64.wrap (v3_6 + v3_7))) && decide ((IntKind.i64.wrap (v3_6 + v3_7)) ≤ ((mergeS e2 e3).length : Int))) (cond (lil v3_4.length) (some [(true, .b (decide (v3_4 = ((mergeS e2 e3).take ((IntKind.i64.wrap (v3_6 + v3_7)).toNat)))))]) none) none) none)
       (some [(true, .b false)])) none) none) none) none))))
       (cond (decide (v3_8 = 3))
       (cond (decide ((v3_5.length : Int) = 1))
       (cond (r_i_within_0 v3_6 0 (IntKind.i64.wrap ((v3_0.length : Int) - 1)))
       (cond (decide (v3_7 = 0))
       (some [(true, .b (decide ((v3_4.length : Int) = 0)))])
       (some [(true, .b false)]))
       (some [(true, .b false)]))
       (some [(true, .b false)]))
       (cond (decide (v3_8 = 4))
       (cond (decide ((v3_5.length : Int) ≤ 1))
       (cond (decide (v3_6 = (v3_0.length : Int)))
       (cond (decide (v3_7 = 0))
       (some [(true, .b (decide ((v3_4.length : Int) = 0)))])
       (some [(true, .b false)]))
       (some [(true, .b false)]))
       (some [(true, .b false)]))
       (some [(true, .b false)]))))) none))))) none
  | e0 :: r, v43, v3_0, v3_1, v3_2, v3_3, v3_4, v3_5, v3_6, v3_7, v3_8, v3_9 => cond (lil v3_4.length) (cond (belowB e0 v3_4)
       (some [(true, .b false)])
       (R_i_IsValidSorter_0 fuel v41 r (v43 + 1) v3_0 v3_1 v3_2 v3_3 v3_4 v3_5 v3_6 v3_7 v3_8 v3_9)) none
theorem lp_i_IsValidSorter_0 (fuel : Nat) (v41 : List Row) (hl : v41.length < 1099511627776) : ∀ (suf pre : List Row) (n : Nat) (v43 : Int) (v3_0 : List Row) (v3_1 : Int) (v3_2 : List Row) (v3_3 : List Row) (v3_4 : List Row) (v3_5 : List (List Row)) (v3_6 : Int) (v3_7 : Int) (v3_8 : Int) (v3_9 : Int), v41 = pre ++ suf → v43 = pre.length → suf.length < n → X_i_IsValidSorter_0 fuel n v3_0 v3_1 v3_2 v3_3 v3_4 v3_5 v3_6 v3_7 v3_8 v3_9 v41 (v41.length : Int) v43 = R_i_IsValidSorter_0 fuel v41 suf v43 v3_0 v3_1 v3_2 v3_3 v3_4 v3_5 v3_6 v3_7 v3_8 v3_9
  | [], pre, n, v43, v3_0, v3_1, v3_2, v3_3, v3_4, v3_5, v3_6, v3_7, v3_8, v3_9, h, hi, hn => by
    obtain ⟨k, rfl, -⟩ := bump hn
    rw [st_i_IsValidSorter_0, cond_false' (at_end h hi)]
    rfl
  | e0 :: suf, pre, n, v43, v3_0, v3_1, v3_2, v3_3, v3_4, v3_5, v3_6, v3_7, v3_8, v3_9, h, hi, hn => by
    obtain ⟨k, rfl, hk⟩ := bump hn
    have ih := fun (q_v3_0 : List Row) (q_v3_1 : Int) (q_v3_2 : List Row) (q_v3_3 : List Row) (q_v3_4 : List Row) (q_v3_5 : List (List Row)) (q_v3_6 : Int) (q_v3_7 : Int) (q_v3_8 : Int) (q_v3_9 : Int) => lp_i_IsValidSorter_0 fuel v41 hl suf (pre ++ [e0]) k (v43 + 1) q_v3_0 q_v3_1 q_v3_2 q_v3_3 q_v3_4 q_v3_5 q_v3_6 q_v3_7 q_v3_8 q_v3_9 (at_step h) (at_idx hi) hk
    rw [st_i_IsValidSorter_0, cond_true' (at_mid h hi)]
    simp only [at_get h hi, at_arr h hi, at_chk h hi, cond_true, Option.bind_some, at_next' h hi hl, ih]
    rfl
theorem lilS_iff {s : Srt} : lilS s = true ↔ s.input.length < 17179869184 ∧ s.heap.length < 17179869184 ∧ s.defd.length < 17179869184 ∧ s.outp.length < 17179869184 ∧ s.runs.length < 17179869184 ∧ s.runs.flatten.length < 17179869184 := by
  simp [lilS, lil, lilRuns, and_assoc]
theorem isE0 {α : Type} (l : List α) : decide ((l.length : Int) = 0) = l.isEmpty := len0 l
theorem ivs_end_i (fuel : Nat) (L : List Row) (i : Int) (s : Srt) (hl : lilS s = true) (hv : vRows s.input = true) (hp : inB s.pos 0 s.input.length = true) (hr : s.runs.all vRun = true)
    (hsum : s.runs.flatten.length + s.outp.length + s.heap.length + s.defd.length < 17179869184) :
    R_i_IsValidSorter_0 fuel L [] i s.input s.pos s.heap s.defd s.outp s.runs s.lp s.rp s.phase s.wr = some [(true, .b (vPhase s))] := by
  obtain ⟨l1, l2, l3, l4, l5, l6⟩ := lilS_iff.1 hl
  have hin : s.input.length ≤ 24 := by simp only [vRows, Bool.and_eq_true, decide_eq_true_eq] at hv; exact hv.2
  have hpos := inB_iff.1 hp
  have d1 : lilRuns s.runs = true := lilRuns_iff.2 ⟨l5, l6⟩
  have d2 : lilM s.heap s.defd = true := by simp [lilM, lil, l2, l3]
  have d3 : lilRuns [s.runs.flatten, s.outp, s.heap, s.defd] = true := lilRuns_iff.2 ⟨by simp, by simp only [List.flatten_cons, List.flatten_nil, List.append_nil, List.length_append]; omega⟩
  have d4 : (decide (0 ≤ s.pos) && decide (s.pos ≤ (s.input.length : Int))) = true := by simp [hpos]
  have d5 : decide ((s.input.take s.pos.toNat).length ≤ 39) = true := by simp <;> omega
  have d6 : decide (s.input.length ≤ 39) = true := by simp <;> omega
  have d7 : lil s.outp.length = true := lil_iff.2 l4
  have e1 : [s.runs.flatten, s.outp, s.heap, s.defd].flatten = s.runs.flatten ++ s.outp ++ s.heap ++ s.defd := by simp
  have e0 : (⟨s.input, s.pos, s.heap, s.defd, s.outp, s.runs, s.lp, s.rp, s.phase, s.wr⟩ : Srt) = s := rfl
  rw [R_i_IsValidSorter_0]
  simp only [d1, d2, d3, d4, d5, d6, d7, e0, e1, cond_true, gt0, isE0, pushB, within_eq]
  by_cases c1 : s.phase = 1
  · simp only [c1, decide_true, cond_true]
    refine someB ?_
    unfold vPhase
    rw [if_pos c1]
    cases decide (s.lp = 0) <;> cases decide (s.rp = 0) <;> cases s.outp.isEmpty <;> cases s.defd.isEmpty <;> cases decide (mem s ≤ 60) <;> simp
  · unfold vPhase
    rw [if_neg c1]
    simp only [c1, decide_false, cond_false]
    by_cases c2 : s.phase = 2
    · simp only [c2, decide_true, cond_true, if_true]
      match hru : s.runs, hr with
      | [], _ => 
        have : decide (((([] : List (List Row)).length : Nat) : Int) < 2) = true := rfl
        simp only [this, cond_true, pushB]
        refine someB ?_
        cases decide (s.pos = s.input.length) <;> cases s.heap.isEmpty <;> cases s.defd.isEmpty <;> simp
      | [a], _ =>
        have : decide (((([a] : List (List Row)).length : Nat) : Int) < 2) = true := rfl
        simp only [this, cond_true, pushB]
        refine someB ?_
        cases decide (s.pos = s.input.length) <;> cases s.heap.isEmpty <;> cases s.defd.isEmpty <;> simp
      | a :: b :: r, hr =>
        have h2 : decide ((((a :: b :: r).length : Nat) : Int) < 2) = false := by simp <;> omega
        simp only [List.all_cons, Bool.and_eq_true] at hr
        have la := vRun_len hr.1
        have lb := vRun_len hr.2.1
        have g0 : geti (a :: b :: r) 0 = some a := rfl
        have g1 : geti (a :: b :: r) 1 = some b := rfl
        simp only [h2, g0, g1, cond_false, Option.bind_some]
        cases hA : inB s.lp 0 a.length with
        | false => simp only [Bool.not_false, cond_true, pushB]; refine someB ?_; cases decide (s.pos = s.input.length) <;> cases s.heap.isEmpty <;> cases s.defd.isEmpty <;> cases eqBag (a :: b :: r).flatten s.input <;> simp
        | true =>
          cases hB : inB s.rp 0 b.length with
          | false => simp only [Bool.not_false, Bool.not_true, cond_true, cond_false, pushB]; refine someB ?_; cases decide (s.pos = s.input.length) <;> cases s.heap.isEmpty <;> cases s.defd.isEmpty <;> cases eqBag (a :: b :: r).flatten s.input <;> simp
          | true =>
            have iA := inB_iff.1 hA
            have iB := inB_iff.1 hB
            have hw : IntKind.i64.wrap (s.lp + s.rp) = s.lp + s.rp := by rw [wrap64 (by omega) (by omega)]
            have q1 : (decide (0 ≤ s.lp) && decide (s.lp ≤ (a.length : Int))) = true := by simp [iA]
            have q2 : (decide (0 ≤ s.rp) && decide (s.rp ≤ (b.length : Int))) = true := by simp [iB]
            have q3 : lil ((a.take s.lp.toNat).length + (b.take s.rp.toNat).length) = true := lil_iff.2 (by simp only [List.length_take]; omega)
            have q4 : lil (a.length + b.length) = true := lil_iff.2 (by omega)
            have q5 : (decide (0 ≤ s.lp + s.rp) && decide (s.lp + s.rp ≤ ((mergeS a b).length : Int))) = true := by rw [mergeS_len]; simp only [Bool.and_eq_true, decide_eq_true_eq]; omega
            simp only [Bool.not_true, cond_true, cond_false, hw, q1, q2, q3, q4, q5, pushB]
            refine someB ?_
            cases decide (s.pos = s.input.length) <;> cases s.heap.isEmpty <;> cases s.defd.isEmpty <;> cases eqBag (a :: b :: r).flatten s.input <;> cases decide (s.outp = mergeS (List.take s.lp.toNat a) (List.take s.rp.toNat b)) <;> simp
    · simp only [c2, decide_false, cond_false, if_false]
      have hw : inB s.lp 0 (IntKind.i64.wrap ((s.input.length : Int) - 1)) = inB s.lp 0 (s.input.length - 1) := by rw [wrap64 (by omega) (by omega)]
      have hr1 : decide ((s.runs.length : Int) = 1) = decide (s.runs.length = 1) := by simp <;> omega
      have hr2 : decide ((s.runs.length : Int) ≤ 1) = decide (s.runs.length ≤ 1) := by simp <;> omega
      simp only [hw, hr1, hr2]
      by_cases c3 : s.phase = 3
      · simp only [c3, decide_true, cond_true, if_true, pushB]
        refine someB ?_
        cases decide (s.pos = s.input.length) <;> cases s.heap.isEmpty <;> cases s.defd.isEmpty <;> cases eqBag s.runs.flatten s.input <;> cases decide (s.runs.length = 1) <;> cases inB s.lp 0 (s.input.length - 1) <;> cases decide (s.rp = 0) <;> simp
      · simp only [c3, decide_false, cond_false, if_false]
        by_cases c4 : s.phase = 4
        · simp only [c4, decide_true, cond_true, if_true, pushB]
          refine someB ?_
          cases decide (s.pos = s.input.length) <;> cases s.heap.isEmpty <;> cases s.defd.isEmpty <;> cases eqBag s.runs.flatten s.input <;> cases decide (s.runs.length ≤ 1) <;> cases decide (s.lp = s.input.length) <;> cases decide (s.rp = 0) <;> simp
        · simp only [c4, decide_false, cond_false, if_false, pushB]
          refine someB ?_
          cases decide (s.pos = s.input.length) <;> cases s.heap.isEmpty <;> cases s.defd.isEmpty <;> cases eqBag s.runs.flatten s.input <;> simp
theorem ivs_lp_i (fuel : Nat) (L : List Row) (s : Srt) (hl : lilS s = true) (hv : vRows s.input = true) (hp : inB s.pos 0 s.input.length = true) (hr : s.runs.all vRun = true)
    (hsum : s.runs.flatten.length + s.outp.length + s.heap.length + s.defd.length < 17179869184) : ∀ (l : List Row) (i : Int),
    R_i_IsValidSorter_0 fuel L l i s.input s.pos s.heap s.defd s.outp s.runs s.lp s.rp s.phase s.wr = some [(true, .b (l.all (fun r => !belowB r s.outp) && vPhase s))]
  | [], i => by rw [ivs_end_i fuel L i s hl hv hp hr hsum]; simp
  | e :: l, i => by
    have d7 : lil s.outp.length = true := lil_iff.2 (lilS_iff.1 hl).2.2.2.1
    rw [R_i_IsValidSorter_0, ivs_lp_i fuel L s hl hv hp hr hsum l]
    simp only [d7, cond_true, pushB, List.all_cons]
    refine someB ?_
    cases belowB e s.outp <;> simp
def sumS (s : Srt) : Nat := s.runs.flatten.length + s.outp.length + s.heap.length + s.defd.length
def domS (s : Srt) : Bool := lilS s && lil (sumS s)
theorem domS_iff {s : Srt} : domS s = true ↔ lilS s = true ∧ sumS s < 17179869184 := by simp [domS, lil]
theorem run_i_IsValidSorter (q0 : List Row) (q1 : Int) (q2 q3 q4 : List Row) (q5 : List (List Row)) (q6 q7 q8 q9 : Int) (h : domS ⟨q0, q1, q2, q3, q4, q5, q6, q7, q8, q9⟩ = true) : runF (E_i_IsValidSorter BIG) Try.f32 [.sl .row q0, .i .i64 q1, .sl .row q2, .sl .row q3, .sl .row q4, .sl .run q5, .i .i64 q6, .i .i64 q7, .i .i64 q8, .i .i64 q9] = some [(true, .b (vSorter ⟨q0, q1, q2, q3, q4, q5, q6, q7, q8, q9⟩))] := by
  obtain ⟨hl, hsum⟩ := domS_iff.1 h
  obtain ⟨l1, l2, l3, l4, l5, l6⟩ := lilS_iff.1 hl
  simp only at l1 l2 l3 l4 l5 l6
  have d0 : lil q0.length = true := lil_iff.2 l1
  have d1 : lilRuns q5 = true := lilRuns_iff.2 ⟨l5, l6⟩
  have d7 : lil q4.length = true := lil_iff.2 l4
  have dw : decide (q9 < 0) = !decide (0 ≤ q9) := by by_cases hq : 0 ≤ q9 <;> simp [hq] <;> omega
  rw [top_i_IsValidSorter, lp_i_IsValidSorter_0 BIG q2 (lil_small l2) q2 [] BIG 0 q0 q1 q2 q3 q4 q5 q6 q7 q8 q9 rfl rfl (lil_big l2)]
  simp only [d0, d1, d7, dw, cond_true, within_eq]
  unfold vSorter
  cases hv : vRows q0 with
  | false => simp
  | true =>
    cases hp : inB q1 0 q0.length with
    | false => simp
    | true =>
      cases hr : q5.all vRun with
      | false => simp
      | true =>
        have := ivs_lp_i BIG q2 ⟨q0, q1, q2, q3, q4, q5, q6, q7, q8, q9⟩ hl hv hp hr hsum q2 0
        simp only at this
        rw [this]
        simp only [pushB]
        refine someB ?_
        cases decide (0 ≤ q9) <;> cases sortedB q4 <;> simp
def F_i_IsValidSorter : Ai.Fn := ⟨[(true, [.sl .row, .sc, .sl .row, .sl .row, .sl .row, .sl .run, .sc, .sc, .sc, .sc])], [(false, 1)], false, fun ds => match ds with | [.sl .row p0_0, .i .i64 p0_1, .sl .row p0_2, .sl .row p0_3, .sl .row p0_4, .sl .run p0_5, .i .i64 p0_6, .i .i64 p0_7, .i .i64 p0_8, .i .i64 p0_9] => domS ⟨p0_0, p0_1, p0_2, p0_3, p0_4, p0_5, p0_6, p0_7, p0_8, p0_9⟩ | _ => false, fun ds => match ds with | [.sl .row p0_0, .i .i64 p0_1, .sl .row p0_2, .sl .row p0_3, .sl .row p0_4, .sl .run p0_5, .i .i64 p0_6, .i .i64 p0_7, .i .i64 p0_8, .i .i64 p0_9] => some [(true, .b (vSorter ⟨p0_0, p0_1, p0_2, p0_3, p0_4, p0_5, p0_6, p0_7, p0_8, p0_9⟩))] | _ => none⟩
theorem fg_i_IsValidSorter : Try.prog.funcs[32]? = some Try.f32 := by kernel_rfl
theorem c_i_IsValidSorter : Ctr Try.prog 32 F_i_IsValidSorter := by
  refine ctr_of_run (code := Try.f32.body.getD .skip) mixed fg_i_IsValidSorter (by kernel_rfl) (Nat.le_of_ble_eq_true (by kernel_rfl)) (Nat.le_of_ble_eq_true (by kernel_rfl)) fun ds out hd hr => ?_
  dsimp only [F_i_IsValidSorter] at hd hr
  split at hd
  · simp only [Option.some.injEq] at hr
    subst hr
    exact ⟨E_i_IsValidSorter BIG, tys_ok tysB_ok, FnsL.cons (fn_ok c_i_AreValidRows) fg_i_AreValidRows rfl rfl (FnsL.cons (fn_ok c_i_equal) fg_i_equal rfl rfl (FnsL.cons (fn_ok c_i_within) fg_i_within rfl rfl (FnsL.cons (fn_ok c_i_AreValidRuns) fg_i_AreValidRuns rfl rfl (FnsL.cons (fn_ok c_i_IsSorted) fg_i_IsSorted rfl rfl (FnsL.cons (fn_ok c_i_below) fg_i_below rfl rfl (FnsL.cons (fn_ok c_i_FlattenRuns) fg_i_FlattenRuns rfl rfl (FnsL.cons (fn_ok c_i_SorterMemory) fg_i_SorterMemory rfl rfl (FnsL.cons (fn_ok c_i_EqualBags) fg_i_EqualBags rfl rfl (FnsL.cons (fn_ok c_i_together) fg_i_together rfl rfl (FnsL.cons (fn_ok c_i_MergeSorted) fg_i_MergeSorted rfl rfl (FnsL.nil))))))))))), rfl, by kernel_rfl, by kernel_rfl, run_i_IsValidSorter _ _ _ _ _ _ _ _ _ _ hd⟩
  · cases hd
theorem last_ge (l : List Row) (hl : l.length < 17179869184) : decide (IntKind.i64.wrap ((l.length : Int) - 1) ≥ 0) = !l.isEmpty := by
  rw [wrap64 (by omega) (by omega)]
  cases l <;> simp <;> omega
theorem below_last (e : Row) (l : List Row) (hl : l.length < 17179869184) (X Y : Res) : cond (!l.isEmpty) (Option.bind (geti l (IntKind.i64.wrap ((l.length : Int) - 1))) fun e2 => cond (decide (cmpR e e2 < 0)) X Y) Y = cond (belowB e l) X Y := by
  have := last_get l hl
  unfold belowB
  cases hz : l.getLast? with
  | none =>
    have : l = [] := by simpa using hz
    subst this; rfl
  | some z =>
    have h2 := this.2 z hz
    have h3 : l.isEmpty = false := by cases l <;> simp at hz ⊢
    simp only [h2, h3, Bool.not_false, cond_true, Option.bind_some, cmpB_lt']
theorem ivs_end_s (fuel : Nat) (i : Int) (s : Srt) (hl : lilS s = true) (hv : vRows s.input = true) (hp : inB s.pos 0 s.input.length = true) (hr : s.runs.all vRun = true)
    (hsum : s.runs.flatten.length + s.outp.length + s.heap.length + s.defd.length < 17179869184) :
    R_s_IsValidSorter_0 fuel s.heap [] i s.input s.pos s.defd s.outp s.runs s.lp s.rp s.phase s.wr (IntKind.i64.wrap ((s.outp.length : Int) - 1)) = some [(true, .b (vPhase s))] := by
  obtain ⟨l1, l2, l3, l4, l5, l6⟩ := lilS_iff.1 hl
  have hin : s.input.length ≤ 24 := by simp only [vRows, Bool.and_eq_true, decide_eq_true_eq] at hv; exact hv.2
  have hpos := inB_iff.1 hp
  have d1 : lilRuns s.runs = true := lilRuns_iff.2 ⟨l5, l6⟩
  have d2 : lilM s.heap s.defd = true := by simp [lilM, lil, l2, l3]
  have d4 : (decide (0 ≤ s.pos) && decide (s.pos ≤ (s.input.length : Int))) = true := by simp [hpos]
  have d7 : lil s.outp.length = true := lil_iff.2 l4
  have k1 : lim (s.runs.flatten.length + s.outp.length) = true := lil_lim (by omega)
  have k2 : lim ((s.runs.flatten ++ s.outp).length + s.heap.length) = true := lil_lim (by simp only [List.length_append]; omega)
  have k3 : lim (((s.runs.flatten ++ s.outp) ++ s.heap).length + s.defd.length) = true := lil_lim (by simp only [List.length_append]; omega)
  have k4 : (lil (((s.runs.flatten ++ s.outp) ++ s.heap) ++ s.defd).length && lil (s.input.take s.pos.toNat).length) = true := by
    simp only [lil, Bool.and_eq_true, decide_eq_true_eq, List.length_append, List.length_take]; omega
  have k5 : (lil s.runs.flatten.length && lil s.input.length) = true := by rw [lil_iff.2 l6, lil_iff.2 l1]; rfl
  have hgt : decide (IntKind.i64.wrap ((s.heap.length : Int) + (s.defd.length : Int)) > 0) = !(s.heap.isEmpty && s.defd.isEmpty) := by
    rw [wrap64 (by omega) (by omega)]
    cases s.heap <;> cases s.defd <;> simp <;> omega
  have e0 : (⟨s.input, s.pos, s.heap, s.defd, s.outp, s.runs, s.lp, s.rp, s.phase, s.wr⟩ : Srt) = s := rfl
  rw [R_s_IsValidSorter_0]
  simp only [d1, d2, d4, d7, k1, k2, k3, k4, k5, hgt, last_ge s.outp l4, e0, cond_true, gt0, isE0, pushB, l1In_eq]
  by_cases c1 : s.phase = 1
  · simp only [c1, decide_true, cond_true]
    refine someB ?_
    unfold vPhase
    rw [if_pos c1]
    cases decide (s.lp = 0) <;> cases decide (s.rp = 0) <;> cases s.outp.isEmpty <;> cases s.defd.isEmpty <;> cases decide (mem s ≤ 60) <;> simp
  · unfold vPhase
    rw [if_neg c1]
    simp only [c1, decide_false, cond_false]
    by_cases c2 : s.phase = 2
    · simp only [c2, decide_true, cond_true, if_true]
      match hru : s.runs, hr with
      | [], _ => 
        have : decide (((([] : List (List Row)).length : Nat) : Int) < 2) = true := rfl
        simp only [this, cond_true, pushB]
        refine someB ?_
        cases decide (s.pos = s.input.length) <;> cases s.heap.isEmpty <;> cases s.defd.isEmpty <;> simp
      | [a], _ =>
        have : decide (((([a] : List (List Row)).length : Nat) : Int) < 2) = true := rfl
        simp only [this, cond_true, pushB]
        refine someB ?_
        cases decide (s.pos = s.input.length) <;> cases s.heap.isEmpty <;> cases s.defd.isEmpty <;> simp
      | a :: b :: r, hr =>
        have h2 : decide ((((a :: b :: r).length : Nat) : Int) < 2) = false := by simp <;> omega
        simp only [List.all_cons, Bool.and_eq_true] at hr
        have la := vRun_len hr.1
        have lb := vRun_len hr.2.1
        have g0 : geti (a :: b :: r) 0 = some a := rfl
        have g1 : geti (a :: b :: r) 1 = some b := rfl
        simp only [h2, g0, g1, cond_false, Option.bind_some]
        cases hA : inB s.lp 0 a.length with
        | false => simp only [Bool.not_false, cond_true, pushB]; refine someB ?_; cases decide (s.pos = s.input.length) <;> cases s.heap.isEmpty <;> cases s.defd.isEmpty <;> cases eqBag (a :: b :: r).flatten s.input <;> simp
        | true =>
          cases hB : inB s.rp 0 b.length with
          | false => simp only [Bool.not_false, Bool.not_true, cond_true, cond_false, pushB]; refine someB ?_; cases decide (s.pos = s.input.length) <;> cases s.heap.isEmpty <;> cases s.defd.isEmpty <;> cases eqBag (a :: b :: r).flatten s.input <;> simp
          | true =>
            have iA := inB_iff.1 hA
            have iB := inB_iff.1 hB
            have hw : IntKind.i64.wrap (s.lp + s.rp) = s.lp + s.rp := by rw [wrap64 (by omega) (by omega)]
            have q1 : (decide (0 ≤ s.lp) && decide (s.lp ≤ (a.length : Int))) = true := by simp [iA]
            have q2 : (decide (0 ≤ s.rp) && decide (s.rp ≤ (b.length : Int))) = true := by simp [iB]
            have q3 : lil ((a.take s.lp.toNat).length + (b.take s.rp.toNat).length) = true := lil_iff.2 (by simp only [List.length_take]; omega)
            have q4 : lil (a.length + b.length) = true := lil_iff.2 (by omega)
            have q5 : (decide (0 ≤ s.lp + s.rp) && decide (s.lp + s.rp ≤ ((mergeS a b).length : Int))) = true := by rw [mergeS_len]; simp only [Bool.and_eq_true, decide_eq_true_eq]; omega
            have q6 : lil (mergeS (a.take s.lp.toNat) (b.take s.rp.toNat)).length = true := lil_iff.2 (by rw [mergeS_len]; simp only [List.length_take]; omega)
            have q7 : decide (mergeS (List.take s.lp.toNat a) (List.take s.rp.toNat b) = s.outp) = decide (s.outp = mergeS (List.take s.lp.toNat a) (List.take s.rp.toNat b)) := by
              by_cases hq : s.outp = mergeS (List.take s.lp.toNat a) (List.take s.rp.toNat b)
              · simp [hq]
              · have : ¬ mergeS (List.take s.lp.toNat a) (List.take s.rp.toNat b) = s.outp := fun e => hq e.symm
                simp [hq, this]
            simp only [Bool.not_true, cond_true, cond_false, hw, q1, q2, q3, q4, q5, q6, q7, pushB]
            refine someB ?_
            cases decide (s.pos = s.input.length) <;> cases s.heap.isEmpty <;> cases s.defd.isEmpty <;> cases eqBag (a :: b :: r).flatten s.input <;> cases decide (s.outp = mergeS (List.take s.lp.toNat a) (List.take s.rp.toNat b)) <;> cases decide (s.outp = List.take (s.lp + s.rp).toNat (mergeS a b)) <;> simp
    · simp only [c2, decide_false, cond_false, if_false]
      have hw : inB s.lp 0 (IntKind.i64.wrap ((s.input.length : Int) - 1)) = inB s.lp 0 (s.input.length - 1) := by rw [wrap64 (by omega) (by omega)]
      have hr1 : decide ((s.runs.length : Int) = 1) = decide (s.runs.length = 1) := by simp <;> omega
      have hr2 : decide ((s.runs.length : Int) > 1) = !decide (s.runs.length ≤ 1) := by by_cases hq : s.runs.length ≤ 1 <;> simp [hq] <;> omega
      have hr3 : s.runs.length = 1 → s.runs.length ≤ 1 := fun h => by omega
      simp only [hw, hr1, hr2]
      by_cases c3 : s.phase = 3
      · simp only [c3, decide_true, cond_true, if_true, pushB]
        refine someB ?_
        by_cases hq : s.runs.length = 1
        · have hq2 := hr3 hq
          simp only [hq, decide_true, cond_true, Nat.le_refl]
          cases decide (s.pos = s.input.length) <;> cases s.heap.isEmpty <;> cases s.defd.isEmpty <;> cases eqBag s.runs.flatten s.input <;> cases inB s.lp 0 (s.input.length - 1) <;> cases decide (s.rp = 0) <;> cases s.outp.isEmpty <;> simp
        · simp only [hq, decide_false, cond_false]
          cases decide (s.pos = s.input.length) <;> cases s.heap.isEmpty <;> cases s.defd.isEmpty <;> cases eqBag s.runs.flatten s.input <;> cases decide (s.runs.length ≤ 1) <;> cases decide (s.rp = 0) <;> cases s.outp.isEmpty <;> simp
      · simp only [c3, decide_false, cond_false, if_false]
        by_cases c4 : s.phase = 4
        · simp only [c4, decide_true, cond_true, if_true, pushB]
          refine someB ?_
          cases decide (s.pos = s.input.length) <;> cases s.heap.isEmpty <;> cases s.defd.isEmpty <;> cases eqBag s.runs.flatten s.input <;> cases decide (s.runs.length ≤ 1) <;> cases decide (s.lp = s.input.length) <;> cases decide (s.rp = 0) <;> cases s.outp.isEmpty <;> simp
        · simp only [c4, decide_false, cond_false, if_false, pushB]
          refine someB ?_
          cases decide (s.pos = s.input.length) <;> cases s.heap.isEmpty <;> cases s.defd.isEmpty <;> cases eqBag s.runs.flatten s.input <;> cases decide (s.runs.length ≤ 1) <;> cases decide (s.rp = 0) <;> cases s.outp.isEmpty <;> simp
theorem ivs_lp_s (fuel : Nat) (s : Srt) (hl : lilS s = true) (hv : vRows s.input = true) (hp : inB s.pos 0 s.input.length = true) (hr : s.runs.all vRun = true)
    (hsum : s.runs.flatten.length + s.outp.length + s.heap.length + s.defd.length < 17179869184) : ∀ (l : List Row) (i : Int),
    R_s_IsValidSorter_0 fuel s.heap l i s.input s.pos s.defd s.outp s.runs s.lp s.rp s.phase s.wr (IntKind.i64.wrap ((s.outp.length : Int) - 1)) = some [(true, .b (l.all (fun r => !belowB r s.outp) && vPhase s))]
  | [], i => by rw [ivs_end_s fuel i s hl hv hp hr hsum]; simp
  | e :: l, i => by
    have l4 := (lilS_iff.1 hl).2.2.2.1
    rw [R_s_IsValidSorter_0, last_ge s.outp l4, below_last e s.outp l4, ivs_lp_s fuel s hl hv hp hr hsum l]
    simp only [pushB, List.all_cons]
    refine someB ?_
    cases belowB e s.outp <;> simp
theorem run_s_IsValidSorter (q0 : List Row) (q1 : Int) (q2 q3 q4 : List Row) (q5 : List (List Row)) (q6 q7 q8 q9 : Int) (h : domS ⟨q0, q1, q2, q3, q4, q5, q6, q7, q8, q9⟩ = true) : runF (E_s_IsValidSorter BIG) Try.f25 [.sl .row q0, .i .i64 q1, .sl .row q2, .sl .row q3, .sl .row q4, .sl .run q5, .i .i64 q6, .i .i64 q7, .i .i64 q8, .i .i64 q9] = some [(true, .b (vSorter ⟨q0, q1, q2, q3, q4, q5, q6, q7, q8, q9⟩))] := by
  obtain ⟨hl, hsum⟩ := domS_iff.1 h
  obtain ⟨l1, l2, l3, l4, l5, l6⟩ := lilS_iff.1 hl
  simp only at l1 l2 l3 l4 l5 l6
  have d0 : lil q0.length = true := lil_iff.2 l1
  have d1 : lilRuns q5 = true := lilRuns_iff.2 ⟨l5, l6⟩
  have d7 : lil q4.length = true := lil_iff.2 l4
  have dw : decide (q9 < 0) = !decide (0 ≤ q9) := by by_cases hq : 0 ≤ q9 <;> simp [hq] <;> omega
  rw [top_s_IsValidSorter, lp_s_IsValidSorter_0 BIG q2 (lil_small l2) q2 [] BIG 0 q0 q1 q3 q4 q5 q6 q7 q8 q9 _ rfl rfl (lil_big l2)]
  simp only [d0, d1, d7, dw, cond_true, l1In_eq]
  unfold vSorter
  cases hv : vRows q0 with
  | false => simp
  | true =>
    cases hp : inB q1 0 q0.length with
    | false => simp
    | true =>
      cases hr : q5.all vRun with
      | false => simp
      | true =>
        have := ivs_lp_s BIG ⟨q0, q1, q2, q3, q4, q5, q6, q7, q8, q9⟩ hl hv hp hr hsum q2 0
        simp only at this
        rw [this]
        simp only [pushB]
        refine someB ?_
        cases decide (0 ≤ q9) <;> cases sortedB q4 <;> simp
def F_s_IsValidSorter : Ai.Fn := ⟨[(true, [.sl .row, .sc, .sl .row, .sl .row, .sl .row, .sl .run, .sc, .sc, .sc, .sc])], [(false, 1)], false, fun ds => match ds with | [.sl .row p0_0, .i .i64 p0_1, .sl .row p0_2, .sl .row p0_3, .sl .row p0_4, .sl .run p0_5, .i .i64 p0_6, .i .i64 p0_7, .i .i64 p0_8, .i .i64 p0_9] => domS ⟨p0_0, p0_1, p0_2, p0_3, p0_4, p0_5, p0_6, p0_7, p0_8, p0_9⟩ | _ => false, fun ds => match ds with | [.sl .row p0_0, .i .i64 p0_1, .sl .row p0_2, .sl .row p0_3, .sl .row p0_4, .sl .run p0_5, .i .i64 p0_6, .i .i64 p0_7, .i .i64 p0_8, .i .i64 p0_9] => some [(true, .b (vSorter ⟨p0_0, p0_1, p0_2, p0_3, p0_4, p0_5, p0_6, p0_7, p0_8, p0_9⟩))] | _ => none⟩
theorem fg_s_IsValidSorter : Try.prog.funcs[25]? = some Try.f25 := by kernel_rfl
theorem c_s_IsValidSorter : Ctr Try.prog 25 F_s_IsValidSorter := by
  refine ctr_of_run (code := Try.f25.body.getD .skip) mixed fg_s_IsValidSorter (by kernel_rfl) (Nat.le_of_ble_eq_true (by kernel_rfl)) (Nat.le_of_ble_eq_true (by kernel_rfl)) fun ds out hd hr => ?_
  dsimp only [F_s_IsValidSorter] at hd hr
  split at hd
  · simp only [Option.some.injEq] at hr
    subst hr
    exact ⟨E_s_IsValidSorter BIG, tys_ok tysB_ok, FnsL.cons (fn_ok c_s_AreValidRows) fg_s_AreValidRows rfl rfl (FnsL.cons (fn_ok c_s_l6Rows) fg_s_l6Rows rfl rfl (FnsL.cons (fn_ok c_s_l1In) fg_s_l1In rfl rfl (FnsL.cons (fn_ok c_s_AreValidRuns) fg_s_AreValidRuns rfl rfl (FnsL.cons (fn_ok c_s_IsSorted) fg_s_IsSorted rfl rfl (FnsL.cons (fn_ok c_s_CompareRows) fg_s_CompareRows rfl rfl (FnsL.cons (fn_ok c_s_FlattenRuns) fg_s_FlattenRuns rfl rfl (FnsL.cons (fn_ok c_s_SorterMemory) fg_s_SorterMemory rfl rfl (FnsL.cons (fn_ok c_s_EqualBags) fg_s_EqualBags rfl rfl (FnsL.cons (fn_ok c_s_MergeSorted) fg_s_MergeSorted rfl rfl (FnsL.nil)))))))))), rfl, by kernel_rfl, by kernel_rfl, run_s_IsValidSorter _ _ _ _ _ _ _ _ _ _ hd⟩
  · cases hd

/- What is left to emit; checkpoints. -/
def remS (s : Srt) : Int := if vSorter s then (if s.phase = 3 ∨ s.phase = 4 then s.input.length - s.lp else s.input.length) else 0
end Go.Proofs.Ytfjdfbdiichhdaa
