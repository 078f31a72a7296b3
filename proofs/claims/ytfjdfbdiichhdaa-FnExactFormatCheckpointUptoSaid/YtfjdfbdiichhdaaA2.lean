/-
  The library's sorting in place: the equations of its code. Conditions: none.
-/
import Derived.Test.YtfjdfbdiichhdaaA1
namespace Go.Proofs.Ytfjdfbdiichhdaa
open Go Ai
set_option maxRecDepth 100000
/- i_within -/
def E_i_within (fuel : Nat) : Env := ⟨tys, [], [], fuel, 15, 0⟩
theorem top_i_within (fuel : Nat) (p0 : Int) (p1 : Int) (p2 : Int) : runF (E_i_within fuel) Try.f73 [.i .i64 p0, .i .i64 p1, .i .i64 p2] =
 cond (decide (p0 ≥ p1))
 (some [(true, .b (decide (p0 ≤ p2)))])
 (some [(true, .b false)]) := by kernel_rfl
def d_i_within (p0 : Int) (p1 : Int) (p2 : Int) : Bool := true
def r_i_within_0 (p0 : Int) (p1 : Int) (p2 : Int) : Bool := (cond (decide (p0 ≥ p1)) (decide (p0 ≤ p2)) false)
def F_i_within : Ai.Fn := ⟨[(false, [.sc]), (false, [.sc]), (false, [.sc])], [(false, 1)], false, fun ds => match ds with | [.i .i64 p0, .i .i64 p1, .i .i64 p2] => d_i_within p0 p1 p2 | _ => false, fun ds => match ds with | [.i .i64 p0, .i .i64 p1, .i .i64 p2] => some [(true, .b (r_i_within_0 p0 p1 p2))] | _ => none⟩
theorem run_i_within (p0 : Int) (p1 : Int) (p2 : Int) (h : d_i_within p0 p1 p2 = true) : runF (E_i_within BIG) Try.f73 [.i .i64 p0, .i .i64 p1, .i .i64 p2] = some [(true, .b (r_i_within_0 p0 p1 p2))] := by
  rw [top_i_within]
  revert h
  unfold d_i_within r_i_within_0
  first | (intro _; rfl) | (simp only [Bool.cond_eq_ite]; (repeat' split) <;> simp_all)
theorem fg_i_within : Try.prog.funcs[73]? = some Try.f73 := by kernel_rfl
theorem c_i_within : Ctr Try.prog 73 F_i_within := by
  refine ctr_of_run (code := Try.f73.body.getD .skip) mixed fg_i_within (by kernel_rfl) (Nat.le_of_ble_eq_true (by kernel_rfl)) (Nat.le_of_ble_eq_true (by kernel_rfl)) fun ds out hd hr => ?_
  dsimp only [F_i_within] at hd hr
  split at hd
  · simp only [Option.some.injEq] at hr
    subst hr
    exact ⟨E_i_within BIG, tys_ok tysB_ok, FnsL.nil, rfl, by kernel_rfl, by kernel_rfl, run_i_within _ _ _ hd⟩
  · cases hd
/- i_IsValidRow -/
def E_i_IsValidRow (fuel : Nat) : Env := ⟨tys, [(73, callFn F_i_within)], [], fuel, 16, 0⟩
theorem top_i_IsValidRow (fuel : Nat) (p0_0 : Int) (p0_1 : Int) (p0_2 : Int) : runF (E_i_IsValidRow fuel) Try.f122 [.i .i64 p0_0, .i .i64 p0_1, .i .i64 p0_2] =
 cond (r_i_within_0 p0_0 0 9)
 (cond (r_i_within_0 p0_1 0 99)
 (some [(true, .b (r_i_within_0 p0_2 0 3))])
 (some [(true, .b false)]))
 (some [(true, .b false)]) := by kernel_rfl
def d_i_IsValidRow (p0_0 : Int) (p0_1 : Int) (p0_2 : Int) : Bool := true
def r_i_IsValidRow_0 (p0_0 : Int) (p0_1 : Int) (p0_2 : Int) : Bool := (cond (r_i_within_0 p0_0 0 9) (cond (r_i_within_0 p0_1 0 99) (r_i_within_0 p0_2 0 3) false) false)
def F_i_IsValidRow : Ai.Fn := ⟨[(true, [.sc, .sc, .sc])], [(false, 1)], false, fun ds => match ds with | [.i .i64 p0_0, .i .i64 p0_1, .i .i64 p0_2] => d_i_IsValidRow p0_0 p0_1 p0_2 | _ => false, fun ds => match ds with | [.i .i64 p0_0, .i .i64 p0_1, .i .i64 p0_2] => some [(true, .b (r_i_IsValidRow_0 p0_0 p0_1 p0_2))] | _ => none⟩
theorem run_i_IsValidRow (p0_0 : Int) (p0_1 : Int) (p0_2 : Int) (h : d_i_IsValidRow p0_0 p0_1 p0_2 = true) : runF (E_i_IsValidRow BIG) Try.f122 [.i .i64 p0_0, .i .i64 p0_1, .i .i64 p0_2] = some [(true, .b (r_i_IsValidRow_0 p0_0 p0_1 p0_2))] := by
  rw [top_i_IsValidRow]
  revert h
  unfold d_i_IsValidRow r_i_IsValidRow_0
  first | (intro _; rfl) | (simp only [Bool.cond_eq_ite]; (repeat' split) <;> simp_all)
theorem fg_i_IsValidRow : Try.prog.funcs[122]? = some Try.f122 := by kernel_rfl
theorem c_i_IsValidRow : Ctr Try.prog 122 F_i_IsValidRow := by
  refine ctr_of_run (code := Try.f122.body.getD .skip) mixed fg_i_IsValidRow (by kernel_rfl) (Nat.le_of_ble_eq_true (by kernel_rfl)) (Nat.le_of_ble_eq_true (by kernel_rfl)) fun ds out hd hr => ?_
  dsimp only [F_i_IsValidRow] at hd hr
  split at hd
  · simp only [Option.some.injEq] at hr
    subst hr
    exact ⟨E_i_IsValidRow BIG, tys_ok tysB_ok, FnsL.cons (fn_ok c_i_within) fg_i_within rfl rfl (FnsL.nil), rfl, by kernel_rfl, by kernel_rfl, run_i_IsValidRow _ _ _ hd⟩
  · cases hd
/- i_order -/
def E_i_order (fuel : Nat) : Env := ⟨tys, [], [], fuel, 13, 0⟩
theorem top_i_order (fuel : Nat) (p0 : Int) (p1 : Int) : runF (E_i_order fuel) Try.f124 [.i .i64 p0, .i .i64 p1] =
 cond (decide (p0 < p1))
 (some [(true, .i .i64 (-1))])
 (cond (decide (p0 > p1))
 (some [(true, .i .i64 1)])
 (some [(true, .i .i64 0)])) := by kernel_rfl
def d_i_order (p0 : Int) (p1 : Int) : Bool := true
def r_i_order_0 (p0 : Int) (p1 : Int) : Int := (cond (decide (p0 < p1)) (-1) (cond (decide (p0 > p1)) 1 0))
def F_i_order : Ai.Fn := ⟨[(false, [.sc]), (false, [.sc])], [(false, 1)], false, fun ds => match ds with | [.i .i64 p0, .i .i64 p1] => d_i_order p0 p1 | _ => false, fun ds => match ds with | [.i .i64 p0, .i .i64 p1] => some [(true, .i .i64 (r_i_order_0 p0 p1))] | _ => none⟩
theorem run_i_order (p0 : Int) (p1 : Int) (h : d_i_order p0 p1 = true) : runF (E_i_order BIG) Try.f124 [.i .i64 p0, .i .i64 p1] = some [(true, .i .i64 (r_i_order_0 p0 p1))] := by
  rw [top_i_order]
  revert h
  unfold d_i_order r_i_order_0
  first | (intro _; rfl) | (simp only [Bool.cond_eq_ite]; (repeat' split) <;> simp_all)
theorem fg_i_order : Try.prog.funcs[124]? = some Try.f124 := by kernel_rfl
theorem c_i_order : Ctr Try.prog 124 F_i_order := by
  refine ctr_of_run (code := Try.f124.body.getD .skip) mixed fg_i_order (by kernel_rfl) (Nat.le_of_ble_eq_true (by kernel_rfl)) (Nat.le_of_ble_eq_true (by kernel_rfl)) fun ds out hd hr => ?_
  dsimp only [F_i_order] at hd hr
  split at hd
  · simp only [Option.some.injEq] at hr
    subst hr
    exact ⟨E_i_order BIG, tys_ok tysB_ok, FnsL.nil, rfl, by kernel_rfl, by kernel_rfl, run_i_order _ _ hd⟩
  · cases hd
/- i_CompareRows -/
def E_i_CompareRows (fuel : Nat) : Env := ⟨tys, [(124, callFn F_i_order)], [], fuel, 28, 0⟩
theorem top_i_CompareRows (fuel : Nat) (p0_0 : Int) (p0_1 : Int) (p0_2 : Int) (p1_0 : Int) (p1_1 : Int) (p1_2 : Int) : runF (E_i_CompareRows fuel) Try.f85 [.i .i64 p0_0, .i .i64 p0_1, .i .i64 p0_2, .i .i64 p1_0, .i .i64 p1_1, .i .i64 p1_2] =
 cond (!decide ((r_i_order_0 p0_0 p1_0) = 0))
 (some [(true, .i .i64 (r_i_order_0 p0_0 p1_0))])
 (cond (!decide ((r_i_order_0 p0_1 p1_1) = 0))
 (some [(true, .i .i64 (r_i_order_0 p0_1 p1_1))])
 (some [(true, .i .i64 (r_i_order_0 p0_2 p1_2))])) := by kernel_rfl
def d_i_CompareRows (p0_0 : Int) (p0_1 : Int) (p0_2 : Int) (p1_0 : Int) (p1_1 : Int) (p1_2 : Int) : Bool := true
def r_i_CompareRows_0 (p0_0 : Int) (p0_1 : Int) (p0_2 : Int) (p1_0 : Int) (p1_1 : Int) (p1_2 : Int) : Int := (cond (!decide ((r_i_order_0 p0_0 p1_0) = 0)) (r_i_order_0 p0_0 p1_0) (cond (!decide ((r_i_order_0 p0_1 p1_1) = 0)) (r_i_order_0 p0_1 p1_1) (r_i_order_0 p0_2 p1_2)))
def F_i_CompareRows : Ai.Fn := ⟨[(true, [.sc, .sc, .sc]), (true, [.sc, .sc, .sc])], [(false, 1)], false, fun ds => match ds with | [.i .i64 p0_0, .i .i64 p0_1, .i .i64 p0_2, .i .i64 p1_0, .i .i64 p1_1, .i .i64 p1_2] => d_i_CompareRows p0_0 p0_1 p0_2 p1_0 p1_1 p1_2 | _ => false, fun ds => match ds with | [.i .i64 p0_0, .i .i64 p0_1, .i .i64 p0_2, .i .i64 p1_0, .i .i64 p1_1, .i .i64 p1_2] => some [(true, .i .i64 (r_i_CompareRows_0 p0_0 p0_1 p0_2 p1_0 p1_1 p1_2))] | _ => none⟩
theorem run_i_CompareRows (p0_0 : Int) (p0_1 : Int) (p0_2 : Int) (p1_0 : Int) (p1_1 : Int) (p1_2 : Int) (h : d_i_CompareRows p0_0 p0_1 p0_2 p1_0 p1_1 p1_2 = true) : runF (E_i_CompareRows BIG) Try.f85 [.i .i64 p0_0, .i .i64 p0_1, .i .i64 p0_2, .i .i64 p1_0, .i .i64 p1_1, .i .i64 p1_2] = some [(true, .i .i64 (r_i_CompareRows_0 p0_0 p0_1 p0_2 p1_0 p1_1 p1_2))] := by
  rw [top_i_CompareRows]
  revert h
  unfold d_i_CompareRows r_i_CompareRows_0
  first | (intro _; rfl) | (simp only [Bool.cond_eq_ite]; (repeat' split) <;> simp_all)
theorem fg_i_CompareRows : Try.prog.funcs[85]? = some Try.f85 := by kernel_rfl
theorem c_i_CompareRows : Ctr Try.prog 85 F_i_CompareRows := by
  refine ctr_of_run (code := Try.f85.body.getD .skip) mixed fg_i_CompareRows (by kernel_rfl) (Nat.le_of_ble_eq_true (by kernel_rfl)) (Nat.le_of_ble_eq_true (by kernel_rfl)) fun ds out hd hr => ?_
  dsimp only [F_i_CompareRows] at hd hr
  split at hd
  · simp only [Option.some.injEq] at hr
    subst hr
    exact ⟨E_i_CompareRows BIG, tys_ok tysB_ok, FnsL.cons (fn_ok c_i_order) fg_i_order rfl rfl (FnsL.nil), rfl, by kernel_rfl, by kernel_rfl, run_i_CompareRows _ _ _ _ _ _ hd⟩
  · cases hd
def S_z_swapRangeCmpFunc_Row : FnL := ⟨[.en (.sl .row), .dp false [.sc], .dp false [.sc], .dp false [.sc], .cl 85 []], [], false, fun _ => false, fun _ => none⟩
def E_z_swapRangeCmpFunc_Row (fuel : Nat) : Env := ⟨tys, [], [(0, ([(0, .a .row 38), (1, .p), (2, .p), (3, .p), (4, .p), (10, .p)], 39))], fuel, 38, 1⟩
noncomputable def X_z_swapRangeCmpFunc_Row_0 (fuel : Nat) (n : Nat)  (v0 : List Row) (v1 : Int) (v2 : Int) (v3 : Int) (v10 : Int) : Res := loopL (E_z_swapRangeCmpFunc_Row fuel) Try.f146 S_z_swapRangeCmpFunc_Row [1] [] n ⟨upds (fun _ => cU) [(0, .av (.one (.ls 38 0 none))), (38, .arr .row true v0), (1, .av (.one (.d (.i .i64 v1)))), (2, .av (.one (.d (.i .i64 v2)))), (3, .av (.one (.d (.i .i64 v3)))), (4, .av (.clo 85 [])), (10, .av (.one (.d (.i .i64 v10))))], 39⟩
theorem top_z_swapRangeCmpFunc_Row (fuel : Nat) (p1 : Int) (p2 : Int) (p3 : Int) (p0 : List Row) : runL (E_z_swapRangeCmpFunc_Row fuel) Try.f146 S_z_swapRangeCmpFunc_Row [.i .i64 p1, .i .i64 p2, .i .i64 p3, .sl .row p0] =
 X_z_swapRangeCmpFunc_Row_0 fuel fuel p0 p1 p2 p3 0 := by kernel_rfl
theorem st_z_swapRangeCmpFunc_Row_0 (fuel : Nat) (n : Nat)  (v0 : List Row) (v1 : Int) (v2 : Int) (v3 : Int) (v10 : Int) : X_z_swapRangeCmpFunc_Row_0 fuel (n + 1) v0 v1 v2 v3 v10 =
 cond (decide (v10 < v3))
 (cond (decide (0 ≤ (IntKind.i64.wrap (v2 + v10))) && decide (((IntKind.i64.wrap (v2 + v10)).toNat) < v0.length)) (Option.bind (v0[0 + ((IntKind.i64.wrap (v2 + v10)).toNat)]?) fun e1 => cond (decide (0 ≤ (IntKind.i64.wrap (v1 + v10))) && decide (((IntKind.i64.wrap (v1 + v10)).toNat) < v0.length)) (Option.bind (v0[0 + ((IntKind.i64.wrap (v1 + v10)).toNat)]?) fun e2 => cond (decide (0 ≤ (IntKind.i64.wrap (v1 + v10))) && decide (((IntKind.i64.wrap (v1 + v10)).toNat) < v0.length)) (Option.bind (v0[0 + ((IntKind.i64.wrap (v1 + v10)).toNat)]?) fun e3 => cond (decide (0 ≤ (IntKind.i64.wrap (v2 + v10))) && decide (((IntKind.i64.wrap (v2 + v10)).toNat) < (v0.set (0 + ((IntKind.i64.wrap (v1 + v10)).toNat)) (⟨e1.k, e1.v, e1.w⟩ : Row)).length)) (Option.bind ((v0.set (0 + ((IntKind.i64.wrap (v1 + v10)).toNat)) (⟨e1.k, e1.v, e1.w⟩ : Row))[0 + ((IntKind.i64.wrap (v2 + v10)).toNat)]?) fun e4 => X_z_swapRangeCmpFunc_Row_0 fuel n ((v0.set (0 + ((IntKind.i64.wrap (v1 + v10)).toNat)) (⟨e1.k, e1.v, e1.w⟩ : Row)).set (0 + ((IntKind.i64.wrap (v2 + v10)).toNat)) (⟨e2.k, e2.v, e2.w⟩ : Row)) v1 v2 v3 (IntKind.i64.wrap (v10 + 1))) none) none) none) none)
 (some [(true, .sl .row v0)]) := by kernel_rfl
def S_z_insertionSortCmpFunc_Row : FnL := ⟨[.en (.sl .row), .dp false [.sc], .dp false [.sc], .cl 85 []], [], false, fun _ => false, fun _ => none⟩
def E_z_insertionSortCmpFunc_Row (fuel : Nat) : Env := ⟨tys, [(85, callFn F_i_CompareRows)], [(0, ([(0, .a .row 53), (1, .p), (2, .p), (3, .p), (8, .p)], 54)), (4, ([(0, .a .row 53), (1, .p), (2, .p), (3, .p), (8, .p), (9, .p)], 54))], fuel, 53, 1⟩
noncomputable def X_z_insertionSortCmpFunc_Row_0 (fuel : Nat) (n : Nat)  (v0 : List Row) (v1 : Int) (v2 : Int) (v8 : Int) : Res := loopL (E_z_insertionSortCmpFunc_Row fuel) Try.f135 S_z_insertionSortCmpFunc_Row [1] [] n ⟨upds (fun _ => cU) [(0, .av (.one (.ls 53 0 none))), (53, .arr .row true v0), (1, .av (.one (.d (.i .i64 v1)))), (2, .av (.one (.d (.i .i64 v2)))), (3, .av (.clo 85 [])), (8, .av (.one (.d (.i .i64 v8))))], 54⟩
noncomputable def X_z_insertionSortCmpFunc_Row_2 (fuel : Nat) (n : Nat) (n0 : Nat) (v0 : List Row) (v1 : Int) (v2 : Int) (v8 : Int) (v9 : Int) : Res := loopL (E_z_insertionSortCmpFunc_Row fuel) Try.f135 S_z_insertionSortCmpFunc_Row [1, 0, 1, 0, 0, 1] [loopL (E_z_insertionSortCmpFunc_Row fuel) Try.f135 S_z_insertionSortCmpFunc_Row [1] [] n0] n ⟨upds (fun _ => cU) [(0, .av (.one (.ls 53 0 none))), (53, .arr .row true v0), (1, .av (.one (.d (.i .i64 v1)))), (2, .av (.one (.d (.i .i64 v2)))), (3, .av (.clo 85 [])), (8, .av (.one (.d (.i .i64 v8)))), (9, .av (.one (.d (.i .i64 v9))))], 54⟩
theorem top_z_insertionSortCmpFunc_Row (fuel : Nat) (p1 : Int) (p2 : Int) (p0 : List Row) : runL (E_z_insertionSortCmpFunc_Row fuel) Try.f135 S_z_insertionSortCmpFunc_Row [.i .i64 p1, .i .i64 p2, .sl .row p0] =
 X_z_insertionSortCmpFunc_Row_0 fuel fuel p0 p1 p2 (IntKind.i64.wrap (p1 + 1)) := by kernel_rfl
theorem st_z_insertionSortCmpFunc_Row_0 (fuel : Nat) (n : Nat)  (v0 : List Row) (v1 : Int) (v2 : Int) (v8 : Int) : X_z_insertionSortCmpFunc_Row_0 fuel (n + 1) v0 v1 v2 v8 =
 cond (decide (v8 < v2))
 (X_z_insertionSortCmpFunc_Row_2 fuel fuel n v0 v1 v2 v8 v8)
 (some [(true, .sl .row v0)]) := by kernel_rfl
theorem st_z_insertionSortCmpFunc_Row_2 (fuel : Nat) (n : Nat) (n0 : Nat) (v0 : List Row) (v1 : Int) (v2 : Int) (v8 : Int) (v9 : Int) : X_z_insertionSortCmpFunc_Row_2 fuel (n + 1) n0 v0 v1 v2 v8 v9 =
 cond (decide (v9 > v1))
 (cond (decide (0 ≤ v9) && decide (v9.toNat < v0.length)) (Option.bind (v0[0 + v9.toNat]?) fun e1 => cond (decide (0 ≤ (IntKind.i64.wrap (v9 - 1))) && decide (((IntKind.i64.wrap (v9 - 1)).toNat) < v0.length)) (Option.bind (v0[0 + ((IntKind.i64.wrap (v9 - 1)).toNat)]?) fun e2 => cond (decide ((r_i_CompareRows_0 e1.k e1.v e1.w e2.k e2.v e2.w) < 0))
 (cond (decide (0 ≤ (IntKind.i64.wrap (v9 - 1))) && decide (((IntKind.i64.wrap (v9 - 1)).toNat) < v0.length)) (Option.bind (v0[0 + ((IntKind.i64.wrap (v9 - 1)).toNat)]?) fun e3 => cond (decide (0 ≤ v9) && decide (v9.toNat < v0.length)) (Option.bind (v0[0 + v9.toNat]?) fun e4 => cond (decide (0 ≤ v9) && decide (v9.toNat < v0.length)) (Option.bind (v0[0 + v9.toNat]?) fun e5 => cond (decide (0 ≤ (IntKind.i64.wrap (v9 - 1))) && decide (((IntKind.i64.wrap (v9 - 1)).toNat) < (v0.set (0 + v9.toNat) (⟨e3.k, e3.v, e3.w⟩ : Row)).length)) (Option.bind ((v0.set (0 + v9.toNat) (⟨e3.k, e3.v, e3.w⟩ : Row))[0 + ((IntKind.i64.wrap (v9 - 1)).toNat)]?) fun e6 => X_z_insertionSortCmpFunc_Row_2 fuel n n0 ((v0.set (0 + v9.toNat) (⟨e3.k, e3.v, e3.w⟩ : Row)).set (0 + ((IntKind.i64.wrap (v9 - 1)).toNat)) (⟨e4.k, e4.v, e4.w⟩ : Row)) v1 v2 v8 (IntKind.i64.wrap (v9 - 1))) none) none) none) none)
 (X_z_insertionSortCmpFunc_Row_0 fuel n0 v0 v1 v2 (IntKind.i64.wrap (v8 + 1)))) none) none)
 (X_z_insertionSortCmpFunc_Row_0 fuel n0 v0 v1 v2 (IntKind.i64.wrap (v8 + 1))) := by kernel_rfl
end Go.Proofs.Ytfjdfbdiichhdaa
