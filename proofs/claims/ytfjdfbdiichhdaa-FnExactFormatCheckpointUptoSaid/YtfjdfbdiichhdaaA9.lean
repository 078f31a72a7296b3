/-
  The stable sort of at most 39 rows, a copy of rows, and the program's sorted rows. Conditions: none.
-/
import Derived.Test.YtfjdfbdiichhdaaA8
namespace Go.Proofs.Ytfjdfbdiichhdaa
open Go Ai
set_option maxRecDepth 100000

theorem big3 : ∃ k, BIG = k + 1 + 1 + 1 := ⟨17592186044413, rfl⟩
theorem sortOut_all (l : List Row) : sortOut l 0 l.length = sortR l := by
  have := sortOut_app [] l [] (a := 0) (b := l.length) rfl (by simp)
  simpa using this
theorem sortDom_ok {l : List Row} {a b : Int} (h0 : 0 ≤ a) (h1 : a ≤ b) (h2 : b ≤ l.length) (h3 : l.length < 1099511627776) : sortDom l a b = true := by
  simp only [sortDom, small, Bool.and_eq_true, decide_eq_true_eq]; omega
def stabDom (l : List Row) (n : Int) : Bool := decide (n = l.length) && decide (l.length ≤ 39)
theorem run_z_stableCmpFunc_Row (p1 : Int) (p0 : List Row) (h : stabDom p0 p1 = true) : runL (E_z_stableCmpFunc_Row BIG) Try.f123 S_z_stableCmpFunc_Row [.i .i64 p1, .sl .row p0] = some [(true, .sl .row (sortR p0))] := by
  simp only [stabDom, Bool.and_eq_true, decide_eq_true_eq] at h
  obtain ⟨rfl, h⟩ := h
  rw [top_z_stableCmpFunc_Row]
  obtain ⟨k, hk⟩ := big3
  have s2 : ∀ l, X_z_stableCmpFunc_Row_2 BIG BIG l p0.length 40 = some [(true, .sl .row l)] := fun l => by
    conv => lhs; rw [show X_z_stableCmpFunc_Row_2 BIG BIG l p0.length 40 = X_z_stableCmpFunc_Row_2 BIG (k + 1 + 1 + 1) l p0.length 40 by rw [← hk]]
    rw [st_z_stableCmpFunc_Row_2, cond_false' (by simp; omega)]
  have s2' : ∀ n l, X_z_stableCmpFunc_Row_2 BIG (n + 1) l p0.length 40 = some [(true, .sl .row l)] := fun n l => by
    rw [st_z_stableCmpFunc_Row_2, cond_false' (by simp; omega)]
  have e0 : ∀ a b c d e, X_z_stableCmpFunc_Row_0 BIG BIG a b c d e = X_z_stableCmpFunc_Row_0 BIG (k + 1 + 1 + 1) a b c d e := fun _ _ _ _ _ => by rw [← hk]
  have e2 : ∀ a b c, X_z_stableCmpFunc_Row_2 BIG BIG a b c = X_z_stableCmpFunc_Row_2 BIG (k + 1 + 1 + 1) a b c := fun _ _ _ => by rw [← hk]
  have e4 : ∀ n a b c d e, X_z_stableCmpFunc_Row_4 BIG BIG n a b c d e = X_z_stableCmpFunc_Row_4 BIG (k + 1 + 1 + 1) n a b c d e := fun _ _ _ _ _ _ => by rw [← hk]
  rw [e0, st_z_stableCmpFunc_Row_0]
  by_cases hn : p0.length < 20
  · rw [cond_false' (by simp; omega), cond_true' (sortDom_ok (by omega) (by omega) (by omega) (by omega))]
    simp only [Int.toNat_natCast, show (0 : Int).toNat = 0 from rfl, sortOut_all]
    rw [e2, st_z_stableCmpFunc_Row_2, cond_false' (by simp; omega)]
  · obtain ⟨U, V, rfl, hU⟩ : ∃ U V, p0 = U ++ V ∧ U.length = 20 := ⟨p0.take 20, p0.drop 20, (List.take_append_drop _ _).symm, by simp; omega⟩
    simp only [List.length_append] at h hn s2 s2'
    have hV : V.length ≤ 19 := by omega
    rw [cond_true' (by simp; omega), cond_true' (sortDom_ok (by omega) (by omega) (by simp; omega) (by simp; omega))]
    have o1 : sortOut (U ++ V) (0 : Int).toNat (20 : Int).toNat = sortR U ++ V := sortOut_app [] U V (a := 0) (b := 20) rfl (by simp [hU])
    rw [o1, wrap64 (n := 20 + 20) (by omega) (by omega), st_z_stableCmpFunc_Row_0, cond_false' (by simp; omega)]
    have hlU := sortR_len U
    have hlV := sortR_len V
    rw [cond_true' (sortDom_ok (by omega) (by simp; omega) (by simp; omega) (by simp; omega))]
    have o2 : sortOut (sortR U ++ V) (20 : Int).toNat ((U ++ V).length : Int).toNat = sortR U ++ sortR V := by
      have := sortOut_app (sortR U) V [] (a := 20) (b := (U ++ V).length) (by omega) (by simp; omega)
      rw [Int.toNat_natCast]
      simpa using this
    rw [o2, e2, st_z_stableCmpFunc_Row_2]
    have hfin : sortR (sortR U ++ sortR V) = sortR (U ++ V) := sortR_congr ((sortR_perm U).append (sortR_perm V))
    by_cases hv : V.length = 0
    · obtain rfl := List.length_eq_zero_iff.1 hv
      rw [cond_false' (by simp; omega)]
      have : sortR ([] : List Row) = [] := rfl
      simp [this]
    · rw [cond_true' (by simp; omega), e4, wrap64 (n := 2 * 20) (by omega) (by omega), st_z_stableCmpFunc_Row_4, cond_false' (by simp; omega), wrap64 (n := 0 + 20) (by omega) (by omega), cond_true' (by simp; omega)]
      have md := mergeDom_app [] (sortR U) (sortR V) [] (a := 0) (m := 0 + 20) (b := ((U ++ V).length : Nat)) (by simp) (by simp; omega) (by simp; omega) (by omega) (by omega) (by simp; omega) (sortR_sorted _) (sortR_sorted _)
      simp only [List.nil_append, List.append_nil] at md
      rw [cond_true' md, wrap64 (n := 20 * 2) (by omega) (by omega)]
      have o3 : sortOut (sortR U ++ sortR V) (0 : Int).toNat ((U ++ V).length : Int).toNat = sortR (U ++ V) := by
        have := sortOut_all (sortR U ++ sortR V)
        simp only [List.length_append, hlU, hlV] at this
        simp only [List.length_append, Int.toNat_natCast, show (0 : Int).toNat = 0 from rfl, this, hfin]
      rw [o3, List.length_append]
      exact s2' _ _
def F_z_stableCmpFunc_Row : FnL := { S_z_stableCmpFunc_Row with dom := fun ds => match ds with | [.i .i64 p1, .sl .row p0] => stabDom p0 p1 | _ => false, run := fun ds => match ds with | [.i .i64 p1, .sl .row p0] => some [(true, .sl .row (sortR p0))] | _ => none }
theorem fg_z_stableCmpFunc_Row : Try.prog.funcs[123]? = some Try.f123 := by kernel_rfl
theorem c_z_stableCmpFunc_Row : FnOK Try.prog 123 (callL F_z_stableCmpFunc_Row) := by
  refine fnok_of_runL (code := Try.f123.body.getD .skip) mixed fg_z_stableCmpFunc_Row (by kernel_rfl) (Nat.le_of_ble_eq_true (by kernel_rfl)) (Nat.le_of_ble_eq_true (by kernel_rfl)) fun ds out hd hr => ?_
  dsimp only [F_z_stableCmpFunc_Row] at hd hr
  split at hd
  · simp only [Option.some.injEq] at hr
    subst hr
    exact ⟨E_z_stableCmpFunc_Row BIG, tys_ok tysB_ok, FnsL.cons (c_z_insertionSortCmpFunc_Row) fg_z_insertionSortCmpFunc_Row rfl rfl (FnsL.cons (c_z_symMergeCmpFunc_Row) fg_z_symMergeCmpFunc_Row rfl rfl (FnsL.nil)), rfl, rfl, by kernel_rfl, (runL_congr (S := S_z_stableCmpFunc_Row) rfl rfl rfl).trans (run_z_stableCmpFunc_Row _ _ hd)⟩
  · cases hd
def S_z_SortStableFunc_Row : FnL := ⟨[.en (.sl .row), .cl 85 []], [], false, fun _ => false, fun _ => none⟩
def E_z_SortStableFunc_Row (fuel : Nat) : Env := ⟨tys, [(123, callL F_z_stableCmpFunc_Row)], [], fuel, 9, 1⟩
theorem top_z_SortStableFunc_Row (fuel : Nat) (p0 : List Row) : runL (E_z_SortStableFunc_Row fuel) Try.f84 S_z_SortStableFunc_Row [.sl .row p0] =
 cond (stabDom p0 (p0.length : Int)) (some [(true, .sl .row (sortR p0))]) none := by kernel_rfl
theorem run_z_SortStableFunc_Row (p0 : List Row) (h : decide (p0.length ≤ 39) = true) : runL (E_z_SortStableFunc_Row BIG) Try.f84 S_z_SortStableFunc_Row [.sl .row p0] = some [(true, .sl .row (sortR p0))] := by
  rw [top_z_SortStableFunc_Row, cond_true' (by simp [stabDom] at h ⊢; exact h)]
def F_z_SortStableFunc_Row : FnL := { S_z_SortStableFunc_Row with dom := fun ds => match ds with | [.sl .row p0] => decide (p0.length ≤ 39) | _ => false, run := fun ds => match ds with | [.sl .row p0] => some [(true, .sl .row (sortR p0))] | _ => none }
theorem fg_z_SortStableFunc_Row : Try.prog.funcs[84]? = some Try.f84 := by kernel_rfl
theorem c_z_SortStableFunc_Row : FnOK Try.prog 84 (callL F_z_SortStableFunc_Row) := by
  refine fnok_of_runL (code := Try.f84.body.getD .skip) mixed fg_z_SortStableFunc_Row (by kernel_rfl) (Nat.le_of_ble_eq_true (by kernel_rfl)) (Nat.le_of_ble_eq_true (by kernel_rfl)) fun ds out hd hr => ?_
  dsimp only [F_z_SortStableFunc_Row] at hd hr
  split at hd
  · simp only [Option.some.injEq] at hr
    subst hr
    exact ⟨E_z_SortStableFunc_Row BIG, tys_ok tysB_ok, FnsL.cons (c_z_stableCmpFunc_Row) fg_z_stableCmpFunc_Row rfl rfl (FnsL.nil), rfl, rfl, by kernel_rfl, (runL_congr (S := S_z_SortStableFunc_Row) rfl rfl rfl).trans (run_z_SortStableFunc_Row _ hd)⟩
  · cases hd
end Go.Proofs.Ytfjdfbdiichhdaa
