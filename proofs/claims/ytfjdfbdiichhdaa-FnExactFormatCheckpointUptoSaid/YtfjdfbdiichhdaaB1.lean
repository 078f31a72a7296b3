/-
  Rows: valid rows, costs, sorted rows, copies; the reference's and the program's. Conditions: none.
-/
import Derived.Test.YtfjdfbdiichhdaaA9
namespace Go.Proofs.Ytfjdfbdiichhdaa
open Go Ai
set_option maxRecDepth 100000


/- The plain forms. -/
def inB (x a b : Int) : Bool := decide (a ≤ x ∧ x ≤ b)
def vRow (r : Row) : Bool := inB r.k 0 9 && inB r.v 0 99 && inB r.w 0 3
def vRows (l : List Row) : Bool := l.all vRow && decide (l.length ≤ 24)
def cost (r : Row) : Int := if vRow r then 1 + r.w else 0
def tot : List Row → Int
  | [] => 0
  | r :: l => cost r + tot l

/- s_l1In -/
def E_s_l1In (fuel : Nat) : Env := ⟨tys, [], [], fuel, 15, 0⟩
theorem top_s_l1In (fuel : Nat) (p0 : Int) (p1 : Int) (p2 : Int) : runF (E_s_l1In fuel) Try.f62 [.i .i64 p0, .i .i64 p1, .i .i64 p2] =
 cond (decide (p0 ≥ p1))
 (some [(true, .b (decide (p0 ≤ p2)))])
 (some [(true, .b false)]) := by kernel_rfl
def d_s_l1In (p0 : Int) (p1 : Int) (p2 : Int) : Bool := true
def r_s_l1In_0 (p0 : Int) (p1 : Int) (p2 : Int) : Bool := (cond (decide (p0 ≥ p1)) (decide (p0 ≤ p2)) false)
def F_s_l1In : Ai.Fn := ⟨[(false, [.sc]), (false, [.sc]), (false, [.sc])], [(false, 1)], false, fun ds => match ds with | [.i .i64 p0, .i .i64 p1, .i .i64 p2] => d_s_l1In p0 p1 p2 | _ => false, fun ds => match ds with | [.i .i64 p0, .i .i64 p1, .i .i64 p2] => some [(true, .b (r_s_l1In_0 p0 p1 p2))] | _ => none⟩
theorem run_s_l1In (p0 : Int) (p1 : Int) (p2 : Int) (h : d_s_l1In p0 p1 p2 = true) : runF (E_s_l1In BIG) Try.f62 [.i .i64 p0, .i .i64 p1, .i .i64 p2] = some [(true, .b (r_s_l1In_0 p0 p1 p2))] := by
  rw [top_s_l1In]
  revert h
  unfold d_s_l1In r_s_l1In_0
  first | (intro _; rfl) | (simp only [Bool.cond_eq_ite]; (repeat' split) <;> simp_all)
theorem fg_s_l1In : Try.prog.funcs[62]? = some Try.f62 := by kernel_rfl
theorem c_s_l1In : Ctr Try.prog 62 F_s_l1In := by
  refine ctr_of_run (code := Try.f62.body.getD .skip) mixed fg_s_l1In (by kernel_rfl) (Nat.le_of_ble_eq_true (by kernel_rfl)) (Nat.le_of_ble_eq_true (by kernel_rfl)) fun ds out hd hr => ?_
  dsimp only [F_s_l1In] at hd hr
  split at hd
  · simp only [Option.some.injEq] at hr
    subst hr
    exact ⟨E_s_l1In BIG, tys_ok tysB_ok, FnsL.nil, rfl, by kernel_rfl, by kernel_rfl, run_s_l1In _ _ _ hd⟩
  · cases hd
theorem l1In_eq (x a b : Int) : r_s_l1In_0 x a b = inB x a b := by
  unfold r_s_l1In_0 inB; by_cases h1 : a ≤ x <;> by_cases h2 : x ≤ b <;> simp [h1, h2]
theorem within_eq (x a b : Int) : r_i_within_0 x a b = inB x a b := by
  unfold r_i_within_0 inB; by_cases h1 : a ≤ x <;> by_cases h2 : x ≤ b <;> simp [h1, h2]
def E_s_IsValidRow (fuel : Nat) : Env := ⟨tys, [(62, callFn F_s_l1In)], [], fuel, 16, 0⟩
theorem top_s_IsValidRow (fuel : Nat) (p0_0 : Int) (p0_1 : Int) (p0_2 : Int) : runF (E_s_IsValidRow fuel) Try.f70 [.i .i64 p0_0, .i .i64 p0_1, .i .i64 p0_2] =
 cond (r_s_l1In_0 p0_0 0 9)
 (cond (r_s_l1In_0 p0_1 0 99)
 (some [(true, .b (r_s_l1In_0 p0_2 0 3))])
 (some [(true, .b false)]))
 (some [(true, .b false)]) := by kernel_rfl
theorem run_s_IsValidRow (p0_0 p0_1 p0_2 : Int) (_ : true = true) : runF (E_s_IsValidRow BIG) Try.f70 [.i .i64 p0_0, .i .i64 p0_1, .i .i64 p0_2] = some [(true, .b (vRow ⟨p0_0, p0_1, p0_2⟩))] := by
  rw [top_s_IsValidRow]; simp only [l1In_eq, vRow]
  cases inB p0_0 0 9 <;> cases inB p0_1 0 99 <;> cases inB p0_2 0 3 <;> rfl
def F_s_IsValidRow : Ai.Fn := ⟨[(true, [.sc, .sc, .sc])], [(false, 1)], false, fun ds => match ds with | [.i .i64 p0_0, .i .i64 p0_1, .i .i64 p0_2] => true | _ => false, fun ds => match ds with | [.i .i64 p0_0, .i .i64 p0_1, .i .i64 p0_2] => some [(true, .b (vRow ⟨p0_0, p0_1, p0_2⟩))] | _ => none⟩
theorem fg_s_IsValidRow : Try.prog.funcs[70]? = some Try.f70 := by kernel_rfl
theorem c_s_IsValidRow : Ctr Try.prog 70 F_s_IsValidRow := by
  refine ctr_of_run (code := Try.f70.body.getD .skip) mixed fg_s_IsValidRow (by kernel_rfl) (Nat.le_of_ble_eq_true (by kernel_rfl)) (Nat.le_of_ble_eq_true (by kernel_rfl)) fun ds out hd hr => ?_
  dsimp only [F_s_IsValidRow] at hd hr
  split at hd
  · simp only [Option.some.injEq] at hr
    subst hr
    exact ⟨E_s_IsValidRow BIG, tys_ok tysB_ok, FnsL.cons (fn_ok c_s_l1In) fg_s_l1In rfl rfl (FnsL.nil), rfl, by kernel_rfl, by kernel_rfl, run_s_IsValidRow _ _ _ hd⟩
  · cases hd
theorem ivr_eq (a b c : Int) : r_i_IsValidRow_0 a b c = vRow ⟨a, b, c⟩ := by
  unfold r_i_IsValidRow_0; simp only [within_eq, vRow]
  cases inB a 0 9 <;> cases inB b 0 99 <;> cases inB c 0 3 <;> rfl
def E_s_AreValidRows (fuel : Nat) : Env := ⟨tys, [(70, callFn F_s_IsValidRow)], [(0, ([(0, .p), (3, .p)], 19))], fuel, 19, 0⟩
noncomputable def X_s_AreValidRows_0 (fuel : Nat) (n : Nat)  (v0 : List Row) (v3 : Int) : Res := loopF (E_s_AreValidRows fuel) Try.f26 [1, 0, 1] [] n ⟨upds (fun _ => cU) [(0, .av (.one (.d (.sl .row v0)))), (3, .av (.one (.d (.i .i64 v3))))], 19⟩
theorem top_s_AreValidRows (fuel : Nat) (p0 : List Row) : runF (E_s_AreValidRows fuel) Try.f26 [.sl .row p0] =
 X_s_AreValidRows_0 fuel fuel p0 0 := by kernel_rfl
theorem st_s_AreValidRows_0 (fuel : Nat) (n : Nat)  (v0 : List Row) (v3 : Int) : X_s_AreValidRows_0 fuel (n + 1) v0 v3 =
 cond (decide (v3 < (v0.length : Int)))
 (Option.bind (geti v0 v3) fun e1 => cond (!(vRow e1))
 (some [(true, .b false)])
 (X_s_AreValidRows_0 fuel n v0 (IntKind.i64.wrap (v3 + 1))))
 (some [(true, .b (decide ((v0.length : Int) ≤ 24)))]) := by kernel_rfl
noncomputable def R_s_AreValidRows_0 (fuel : Nat) (v0 : List Row) : List Row → Int → Res
  | [], v3 => some [(true, .b (decide ((v0.length : Int) ≤ 24)))]
  | e0 :: r, v3 => cond (!(vRow e0))
       (some [(true, .b false)])
       (R_s_AreValidRows_0 fuel v0 r (v3 + 1))
theorem lp_s_AreValidRows_0 (fuel : Nat) (v0 : List Row) (hl : v0.length < 1099511627776) : ∀ (suf pre : List Row) (n : Nat) (v3 : Int), v0 = pre ++ suf → v3 = pre.length → suf.length < n → X_s_AreValidRows_0 fuel n v0 v3 = R_s_AreValidRows_0 fuel v0 suf v3
  | [], pre, n, v3, h, hi, hn => by
    obtain ⟨k, rfl, -⟩ := bump hn
    rw [st_s_AreValidRows_0, cond_false' (at_end h hi)]
    rfl
  | e0 :: suf, pre, n, v3, h, hi, hn => by
    obtain ⟨k, rfl, hk⟩ := bump hn
    have ih := fun (_ : Unit) => lp_s_AreValidRows_0 fuel v0 hl suf (pre ++ [e0]) k (v3 + 1)  (at_step h) (at_idx hi) hk
    rw [st_s_AreValidRows_0, cond_true' (at_mid h hi)]
    simp only [at_get h hi, at_arr h hi, at_chk h hi, cond_true, Option.bind_some, at_next' h hi hl, ih ()]
    rfl
theorem R_vr (fuel : Nat) (L : List Row) : ∀ (l : List Row) (i : Int), R_s_AreValidRows_0 fuel L l i = some [(true, .b (l.all vRow && decide (L.length ≤ 24)))]
  | [], i => by simp [R_s_AreValidRows_0]; omega
  | e :: l, i => by
    rw [List.all_cons, R_s_AreValidRows_0, R_vr fuel L l]
    cases vRow e <;> rfl
theorem run_s_AreValidRows (p0 : List Row) (h : lil p0.length = true) : runF (E_s_AreValidRows BIG) Try.f26 [.sl .row p0] = some [(true, .b (vRows p0))] := by
  have hs := lil_iff.1 h
  rw [top_s_AreValidRows, lp_s_AreValidRows_0 BIG p0 (lil_small hs) p0 [] BIG 0 rfl rfl (lil_big hs), R_vr]
  rfl
def F_s_AreValidRows : Ai.Fn := ⟨[(false, [.sl .row])], [(false, 1)], false, fun ds => match ds with | [.sl .row p0] => lil p0.length | _ => false, fun ds => match ds with | [.sl .row p0] => some [(true, .b (vRows p0))] | _ => none⟩
theorem fg_s_AreValidRows : Try.prog.funcs[26]? = some Try.f26 := by kernel_rfl
theorem c_s_AreValidRows : Ctr Try.prog 26 F_s_AreValidRows := by
  refine ctr_of_run (code := Try.f26.body.getD .skip) mixed fg_s_AreValidRows (by kernel_rfl) (Nat.le_of_ble_eq_true (by kernel_rfl)) (Nat.le_of_ble_eq_true (by kernel_rfl)) fun ds out hd hr => ?_
  dsimp only [F_s_AreValidRows] at hd hr
  split at hd
  · simp only [Option.some.injEq] at hr
    subst hr
    exact ⟨E_s_AreValidRows BIG, tys_ok tysB_ok, FnsL.cons (fn_ok c_s_IsValidRow) fg_s_IsValidRow rfl rfl (FnsL.nil), rfl, by kernel_rfl, by kernel_rfl, run_s_AreValidRows _ hd⟩
  · cases hd
def E_i_allValid (fuel : Nat) : Env := ⟨tys, [(122, callFn F_i_IsValidRow)], [(0, ([(5, .p), (6, .p), (7, .p)], 15))], fuel, 15, 0⟩
noncomputable def X_i_allValid_0 (fuel : Nat) (n : Nat)  (v5 : List Row) (v6 : Int) (v7 : Int) : Res := loopF (E_i_allValid fuel) Try.f82 [1, 0, 1] [] n ⟨upds (fun _ => cU) [(5, .av (.one (.d (.sl .row v5)))), (6, .av (.one (.d (.i .i64 v6)))), (7, .av (.one (.d (.i .i64 v7))))], 15⟩
theorem top_i_allValid (fuel : Nat) (p0 : List Row) : runF (E_i_allValid fuel) Try.f82 [.sl .row p0] =
 X_i_allValid_0 fuel fuel p0 (p0.length : Int) 0 := by kernel_rfl
theorem st_i_allValid_0 (fuel : Nat) (n : Nat)  (v5 : List Row) (v6 : Int) (v7 : Int) : X_i_allValid_0 fuel (n + 1) v5 v6 v7 =
 cond (decide (v7 < v6))
 (Option.bind (geti v5 v7) fun e1 => cond (!(r_i_IsValidRow_0 e1.k e1.v e1.w))
 (some [(true, .b false)])
 (X_i_allValid_0 fuel n v5 v6 (IntKind.i64.wrap (v7 + 1))))
 (some [(true, .b true)]) := by kernel_rfl
noncomputable def R_i_allValid_0 (fuel : Nat) (v5 : List Row) : List Row → Int → Res
  | [], v7 => some [(true, .b true)]
  | e0 :: r, v7 => cond (!(r_i_IsValidRow_0 e0.k e0.v e0.w))
       (some [(true, .b false)])
       (R_i_allValid_0 fuel v5 r (v7 + 1))
theorem lp_i_allValid_0 (fuel : Nat) (v5 : List Row) (hl : v5.length < 1099511627776) : ∀ (suf pre : List Row) (n : Nat) (v7 : Int), v5 = pre ++ suf → v7 = pre.length → suf.length < n → X_i_allValid_0 fuel n v5 (v5.length : Int) v7 = R_i_allValid_0 fuel v5 suf v7
  | [], pre, n, v7, h, hi, hn => by
    obtain ⟨k, rfl, -⟩ := bump hn
    rw [st_i_allValid_0, cond_false' (at_end h hi)]
    rfl
  | e0 :: suf, pre, n, v7, h, hi, hn => by
    obtain ⟨k, rfl, hk⟩ := bump hn
    have ih := fun (_ : Unit) => lp_i_allValid_0 fuel v5 hl suf (pre ++ [e0]) k (v7 + 1)  (at_step h) (at_idx hi) hk
    rw [st_i_allValid_0, cond_true' (at_mid h hi)]
    simp only [at_get h hi, at_arr h hi, at_chk h hi, cond_true, Option.bind_some, at_next' h hi hl, ih ()]
    rfl
theorem R_av (fuel : Nat) (L : List Row) : ∀ (l : List Row) (i : Int), R_i_allValid_0 fuel L l i = some [(true, .b (l.all vRow))]
  | [], i => rfl
  | e :: l, i => by
    rw [List.all_cons, R_i_allValid_0, R_av fuel L l, ivr_eq]
    cases vRow e <;> rfl
theorem run_i_allValid (p0 : List Row) (h : lil p0.length = true) : runF (E_i_allValid BIG) Try.f82 [.sl .row p0] = some [(true, .b (p0.all vRow))] := by
  have hs := lil_iff.1 h
  rw [top_i_allValid, lp_i_allValid_0 BIG p0 (lil_small hs) p0 [] BIG 0 rfl rfl (lil_big hs), R_av]
def F_i_allValid : Ai.Fn := ⟨[(false, [.sl .row])], [(false, 1)], false, fun ds => match ds with | [.sl .row p0] => lil p0.length | _ => false, fun ds => match ds with | [.sl .row p0] => some [(true, .b (p0.all vRow))] | _ => none⟩
theorem fg_i_allValid : Try.prog.funcs[82]? = some Try.f82 := by kernel_rfl
theorem c_i_allValid : Ctr Try.prog 82 F_i_allValid := by
  refine ctr_of_run (code := Try.f82.body.getD .skip) mixed fg_i_allValid (by kernel_rfl) (Nat.le_of_ble_eq_true (by kernel_rfl)) (Nat.le_of_ble_eq_true (by kernel_rfl)) fun ds out hd hr => ?_
  dsimp only [F_i_allValid] at hd hr
  split at hd
  · simp only [Option.some.injEq] at hr
    subst hr
    exact ⟨E_i_allValid BIG, tys_ok tysB_ok, FnsL.cons (fn_ok c_i_IsValidRow) fg_i_IsValidRow rfl rfl (FnsL.nil), rfl, by kernel_rfl, by kernel_rfl, run_i_allValid _ hd⟩
  · cases hd
def E_i_AreValidRows (fuel : Nat) : Env := ⟨tys, [(82, callFn F_i_allValid)], [], fuel, 10, 0⟩
theorem top_i_AreValidRows (fuel : Nat) (p0 : List Row) : runF (E_i_AreValidRows fuel) Try.f33 [.sl .row p0] =
 cond (decide ((p0.length : Int) ≤ 24))
 (cond (lil p0.length) (some [(true, .b (p0.all vRow))]) none)
 (some [(true, .b false)]) := by kernel_rfl
theorem run_i_AreValidRows (p0 : List Row) (h : lil p0.length = true) : runF (E_i_AreValidRows BIG) Try.f33 [.sl .row p0] = some [(true, .b (vRows p0))] := by
  rw [top_i_AreValidRows]
  by_cases h1 : p0.length ≤ 24
  · rw [cond_true' (by simp; omega), cond_true' h]; simp [vRows, h1]
  · rw [cond_false' (by simp; omega)]; simp [vRows, h1]
def F_i_AreValidRows : Ai.Fn := ⟨[(false, [.sl .row])], [(false, 1)], false, fun ds => match ds with | [.sl .row p0] => lil p0.length | _ => false, fun ds => match ds with | [.sl .row p0] => some [(true, .b (vRows p0))] | _ => none⟩
theorem fg_i_AreValidRows : Try.prog.funcs[33]? = some Try.f33 := by kernel_rfl
theorem c_i_AreValidRows : Ctr Try.prog 33 F_i_AreValidRows := by
  refine ctr_of_run (code := Try.f33.body.getD .skip) mixed fg_i_AreValidRows (by kernel_rfl) (Nat.le_of_ble_eq_true (by kernel_rfl)) (Nat.le_of_ble_eq_true (by kernel_rfl)) fun ds out hd hr => ?_
  dsimp only [F_i_AreValidRows] at hd hr
  split at hd
  · simp only [Option.some.injEq] at hr
    subst hr
    exact ⟨E_i_AreValidRows BIG, tys_ok tysB_ok, FnsL.cons (fn_ok c_i_allValid) fg_i_allValid rfl rfl (FnsL.nil), rfl, by kernel_rfl, by kernel_rfl, run_i_AreValidRows _ hd⟩
  · cases hd

/- Comparing rows. -/

def E_s_CompareRows (fuel : Nat) : Env := ⟨tys, [], [(0, ([(5, .a .int 44), (6, .a .int 45), (7, .p)], 46))], fuel, 44, 0⟩
noncomputable def X_s_CompareRows_0 (fuel : Nat) (n : Nat)  (v5 : List Int) (v6 : List Int) (v7 : Int) : Res := loopF (E_s_CompareRows fuel) Try.f65 [1, 1, 1, 0, 1] [] n ⟨upds (fun _ => cU) [(5, .av (.one (.ls 44 0 none))), (44, .arr .int true v5), (6, .av (.one (.ls 45 0 none))), (45, .arr .int true v6), (7, .av (.one (.d (.i .i64 v7))))], 46⟩
theorem top_s_CompareRows (fuel : Nat) (p0_0 : Int) (p0_1 : Int) (p0_2 : Int) (p1_0 : Int) (p1_1 : Int) (p1_2 : Int) : runF (E_s_CompareRows fuel) Try.f65 [.i .i64 p0_0, .i .i64 p0_1, .i .i64 p0_2, .i .i64 p1_0, .i .i64 p1_1, .i .i64 p1_2] =
 X_s_CompareRows_0 fuel fuel ([p0_0, p0_1, p0_2] : List Int) ([p1_0, p1_1, p1_2] : List Int) 0 := by kernel_rfl
theorem st_s_CompareRows_0 (fuel : Nat) (n : Nat)  (v5 : List Int) (v6 : List Int) (v7 : Int) : X_s_CompareRows_0 fuel (n + 1) v5 v6 v7 =
 cond (decide (v7 < 3))
 (cond (decide (0 ≤ v7) && decide (v7.toNat < v5.length)) (Option.bind (v5[0 + v7.toNat]?) fun e1 => cond (decide (0 ≤ v7) && decide (v7.toNat < v6.length)) (Option.bind (v6[0 + v7.toNat]?) fun e2 => cond (decide (e1 < e2))
 (some [(true, .i .i64 (-1))])
 (cond (decide (0 ≤ v7) && decide (v7.toNat < v5.length)) (Option.bind (v5[0 + v7.toNat]?) fun e3 => cond (decide (0 ≤ v7) && decide (v7.toNat < v6.length)) (Option.bind (v6[0 + v7.toNat]?) fun e4 => cond (decide (e3 > e4))
 (some [(true, .i .i64 1)])
 (X_s_CompareRows_0 fuel n v5 v6 (IntKind.i64.wrap (v7 + 1)))) none) none)) none) none)
 (some [(true, .i .i64 0)]) := by kernel_rfl
theorem run_s_CompareRows (a b c d e f : Int) (_ : true = true) : runF (E_s_CompareRows BIG) Try.f65 [.i .i64 a, .i .i64 b, .i .i64 c, .i .i64 d, .i .i64 e, .i .i64 f] = some [(true, .i .i64 (cmpR ⟨a, b, c⟩ ⟨d, e, f⟩))] := by
  rw [top_s_CompareRows]
  obtain ⟨k, hk⟩ : ∃ k, BIG = k + 1 + 1 + 1 + 1 := ⟨17592186044412, rfl⟩
  have e0 : ∀ a b c, X_s_CompareRows_0 BIG BIG a b c = X_s_CompareRows_0 BIG (k + 1 + 1 + 1 + 1) a b c := fun _ _ _ => by rw [← hk]
  have w1 : IntKind.i64.wrap (0 + 1) = 1 := by decide
  have w2 : IntKind.i64.wrap (1 + 1) = 2 := by decide
  have w3 : IntKind.i64.wrap (2 + 1) = 3 := by decide
  rw [e0, cmpR_val]
  simp only [st_s_CompareRows_0, w1, w2, w3]
  by_cases h1 : a < d <;> by_cases h2 : d < a <;> by_cases h3 : b < e <;> by_cases h4 : e < b <;> by_cases h5 : c < f <;> by_cases h6 : f < c <;> simp [h1, h2, h3, h4, h5, h6] <;> omega
def F_s_CompareRows : Ai.Fn := ⟨[(true, [.sc, .sc, .sc]), (true, [.sc, .sc, .sc])], [(false, 1)], false, fun ds => match ds with | [.i .i64 p0_0, .i .i64 p0_1, .i .i64 p0_2, .i .i64 p1_0, .i .i64 p1_1, .i .i64 p1_2] => true | _ => false, fun ds => match ds with | [.i .i64 p0_0, .i .i64 p0_1, .i .i64 p0_2, .i .i64 p1_0, .i .i64 p1_1, .i .i64 p1_2] => some [(true, .i .i64 (cmpR ⟨p0_0, p0_1, p0_2⟩ ⟨p1_0, p1_1, p1_2⟩))] | _ => none⟩
theorem fg_s_CompareRows : Try.prog.funcs[65]? = some Try.f65 := by kernel_rfl
theorem c_s_CompareRows : Ctr Try.prog 65 F_s_CompareRows := by
  refine ctr_of_run (code := Try.f65.body.getD .skip) mixed fg_s_CompareRows (by kernel_rfl) (Nat.le_of_ble_eq_true (by kernel_rfl)) (Nat.le_of_ble_eq_true (by kernel_rfl)) fun ds out hd hr => ?_
  dsimp only [F_s_CompareRows] at hd hr
  split at hd
  · simp only [Option.some.injEq] at hr
    subst hr
    exact ⟨E_s_CompareRows BIG, tys_ok tysB_ok, FnsL.nil, rfl, by kernel_rfl, by kernel_rfl, run_s_CompareRows _ _ _ _ _ _ hd⟩
  · cases hd

/- Sorted rows. -/
def adj : List Row → Bool
  | x :: y :: r => decide (leR x y) && adj (y :: r)
  | _ => true
theorem adj_eq : ∀ l : List Row, adj l = sortedB l
  | [] => rfl
  | [x] => rfl
  | x :: y :: r => by
    have e : sortedB (x :: y :: r) = ((y :: r).all (fun z => decide (leR x z)) && sortedB (y :: r)) := rfl
    rw [adj, adj_eq (y :: r), e]
    cases h : sortedB (y :: r) with
    | false => simp
    | true =>
      have hs := List.pairwise_cons.1 (sortedB_iff.1 h)
      by_cases hxy : leR x y
      · have : ∀ z ∈ r, leR x z := fun z hz => leR_trans hxy (hs.1 z hz)
        simp [hxy]; exact this
      · simp [hxy]
theorem cmpB_gt {a b : Row} : decide (cmpR a b > 0) = !decide (leR a b) := by
  have := @cmp_le a b
  by_cases h : leR a b
  · have h1 := this.2 h; simp [h]; omega
  · have h1 : ¬ cmpR a b ≤ 0 := fun h' => h (this.1 h')
    simp [h]; omega
theorem cmpB_lt' {a b : Row} : decide (cmpR a b < 0) = !decide (leR b a) := by
  have := @cmp_lt a b
  by_cases h : leR b a
  · have h1 : ¬ cmpR a b < 0 := fun h' => this.1 h' h
    simp [h]; omega
  · have h1 := this.2 h; simp [h]; omega
def E_s_IsSorted (fuel : Nat) : Env := ⟨tys, [(65, callFn F_s_CompareRows)], [(0, ([(0, .p), (3, .p)], 21))], fuel, 21, 0⟩
noncomputable def X_s_IsSorted_0 (fuel : Nat) (n : Nat)  (v0 : List Row) (v3 : Int) : Res := loopF (E_s_IsSorted fuel) Try.f64 [1, 0, 1] [] n ⟨upds (fun _ => cU) [(0, .av (.one (.d (.sl .row v0)))), (3, .av (.one (.d (.i .i64 v3))))], 21⟩
theorem top_s_IsSorted (fuel : Nat) (p0 : List Row) : runF (E_s_IsSorted fuel) Try.f64 [.sl .row p0] =
 X_s_IsSorted_0 fuel fuel p0 1 := by kernel_rfl
theorem st_s_IsSorted_0 (fuel : Nat) (n : Nat)  (v0 : List Row) (v3 : Int) : X_s_IsSorted_0 fuel (n + 1) v0 v3 =
 cond (decide (v3 < (v0.length : Int)))
 (Option.bind (geti v0 (IntKind.i64.wrap (v3 - 1))) fun e1 => Option.bind (geti v0 v3) fun e2 => cond (decide ((cmpR e1 e2) > 0))
 (some [(true, .b false)])
 (X_s_IsSorted_0 fuel n v0 (IntKind.i64.wrap (v3 + 1))))
 (some [(true, .b true)]) := by kernel_rfl
noncomputable def R_s_IsSorted_0 (fuel : Nat) (v0 : List Row) : List Row → Int → Res
  | [], v3 => some [(true, .b true)]
  | e0 :: r, v3 => Option.bind (geti v0 (IntKind.i64.wrap (v3 - 1))) fun e1 => cond (decide ((cmpR e1 e0) > 0))
       (some [(true, .b false)])
       (R_s_IsSorted_0 fuel v0 r (v3 + 1))
theorem lp_s_IsSorted_0 (fuel : Nat) (v0 : List Row) (hl : v0.length < 1099511627776) : ∀ (suf pre : List Row) (n : Nat) (v3 : Int), v0 = pre ++ suf → v3 = pre.length → suf.length < n → X_s_IsSorted_0 fuel n v0 v3 = R_s_IsSorted_0 fuel v0 suf v3
  | [], pre, n, v3, h, hi, hn => by
    obtain ⟨k, rfl, -⟩ := bump hn
    rw [st_s_IsSorted_0, cond_false' (at_end h hi)]
    rfl
  | e0 :: suf, pre, n, v3, h, hi, hn => by
    obtain ⟨k, rfl, hk⟩ := bump hn
    have ih := fun (_ : Unit) => lp_s_IsSorted_0 fuel v0 hl suf (pre ++ [e0]) k (v3 + 1)  (at_step h) (at_idx hi) hk
    rw [st_s_IsSorted_0, cond_true' (at_mid h hi)]
    simp only [at_get h hi, at_arr h hi, at_chk h hi, cond_true, Option.bind_some, at_next' h hi hl, ih ()]
    rfl
theorem R_so (fuel : Nat) (L : List Row) (hL : L.length < 1099511627776) : ∀ (l pre : List Row) (x : Row) (i : Int), L = pre ++ x :: l → i = (pre.length + 1 : Nat) → R_s_IsSorted_0 fuel L l i = some [(true, .b (adj (x :: l)))]
  | [], pre, x, i, h, hi => rfl
  | y :: l, pre, x, i, h, hi => by
    have hl := congrArg List.length h
    simp at hl
    have hw : IntKind.i64.wrap (i - 1) = (pre.length : Nat) := by rw [wrap64 (by omega) (by omega)]; omega
    have ih := R_so fuel L hL l (pre ++ [x]) y (i + 1) (by simp [h]) (by simp; omega)
    rw [R_s_IsSorted_0, hw, h, geti_app rfl]
    simp only [Option.bind_some, cmpB_gt, Bool.not_not, adj]
    rw [← h, ih]
    by_cases hc : leR x y <;> simp [hc]
theorem run_s_IsSorted (p0 : List Row) (h : lil p0.length = true) : runF (E_s_IsSorted BIG) Try.f64 [.sl .row p0] = some [(true, .b (sortedB p0))] := by
  have hs := lil_iff.1 h
  rw [top_s_IsSorted, ← adj_eq]
  cases p0 with
  | nil =>
    obtain ⟨k, hk⟩ := bigS
    have : X_s_IsSorted_0 BIG BIG [] 1 = X_s_IsSorted_0 BIG (k + 1) [] 1 := by rw [← hk]
    rw [this, st_s_IsSorted_0]; rfl
  | cons x l =>
    rw [lp_s_IsSorted_0 BIG (x :: l) (lil_small hs) l [x] BIG 1 rfl rfl (lil_big (by simp at hs; omega)), R_so BIG _ (lil_small hs) l [] x 1 rfl rfl]
def F_s_IsSorted : Ai.Fn := ⟨[(false, [.sl .row])], [(false, 1)], false, fun ds => match ds with | [.sl .row p0] => lil p0.length | _ => false, fun ds => match ds with | [.sl .row p0] => some [(true, .b (sortedB p0))] | _ => none⟩
theorem fg_s_IsSorted : Try.prog.funcs[64]? = some Try.f64 := by kernel_rfl
theorem c_s_IsSorted : Ctr Try.prog 64 F_s_IsSorted := by
  refine ctr_of_run (code := Try.f64.body.getD .skip) mixed fg_s_IsSorted (by kernel_rfl) (Nat.le_of_ble_eq_true (by kernel_rfl)) (Nat.le_of_ble_eq_true (by kernel_rfl)) fun ds out hd hr => ?_
  dsimp only [F_s_IsSorted] at hd hr
  split at hd
  · simp only [Option.some.injEq] at hr
    subst hr
    exact ⟨E_s_IsSorted BIG, tys_ok tysB_ok, FnsL.cons (fn_ok c_s_CompareRows) fg_s_CompareRows rfl rfl (FnsL.nil), rfl, by kernel_rfl, by kernel_rfl, run_s_IsSorted _ hd⟩
  · cases hd
def E_i_IsSorted (fuel : Nat) : Env := ⟨tys, [(85, callFn F_i_CompareRows)], [(0, ([(0, .p), (3, .p)], 21))], fuel, 21, 0⟩
noncomputable def X_i_IsSorted_0 (fuel : Nat) (n : Nat)  (v0 : List Row) (v3 : Int) : Res := loopF (E_i_IsSorted fuel) Try.f75 [1, 0, 1] [] n ⟨upds (fun _ => cU) [(0, .av (.one (.d (.sl .row v0)))), (3, .av (.one (.d (.i .i64 v3))))], 21⟩
theorem top_i_IsSorted (fuel : Nat) (p0 : List Row) : runF (E_i_IsSorted fuel) Try.f75 [.sl .row p0] =
 X_i_IsSorted_0 fuel fuel p0 1 := by kernel_rfl
theorem st_i_IsSorted_0 (fuel : Nat) (n : Nat)  (v0 : List Row) (v3 : Int) : X_i_IsSorted_0 fuel (n + 1) v0 v3 =
 cond (decide (v3 < (v0.length : Int)))
 (Option.bind (geti v0 v3) fun e1 => Option.bind (geti v0 (IntKind.i64.wrap (v3 - 1))) fun e2 => cond (decide ((cmpR e1 e2) < 0))
 (some [(true, .b false)])
 (X_i_IsSorted_0 fuel n v0 (IntKind.i64.wrap (v3 + 1))))
 (some [(true, .b true)]) := by kernel_rfl
noncomputable def R_i_IsSorted_0 (fuel : Nat) (v0 : List Row) : List Row → Int → Res
  | [], v3 => some [(true, .b true)]
  | e0 :: r, v3 => Option.bind (geti v0 (IntKind.i64.wrap (v3 - 1))) fun e2 => cond (decide ((cmpR e0 e2) < 0))
       (some [(true, .b false)])
       (R_i_IsSorted_0 fuel v0 r (v3 + 1))
theorem lp_i_IsSorted_0 (fuel : Nat) (v0 : List Row) (hl : v0.length < 1099511627776) : ∀ (suf pre : List Row) (n : Nat) (v3 : Int), v0 = pre ++ suf → v3 = pre.length → suf.length < n → X_i_IsSorted_0 fuel n v0 v3 = R_i_IsSorted_0 fuel v0 suf v3
  | [], pre, n, v3, h, hi, hn => by
    obtain ⟨k, rfl, -⟩ := bump hn
    rw [st_i_IsSorted_0, cond_false' (at_end h hi)]
    rfl
  | e0 :: suf, pre, n, v3, h, hi, hn => by
    obtain ⟨k, rfl, hk⟩ := bump hn
    have ih := fun (_ : Unit) => lp_i_IsSorted_0 fuel v0 hl suf (pre ++ [e0]) k (v3 + 1)  (at_step h) (at_idx hi) hk
    rw [st_i_IsSorted_0, cond_true' (at_mid h hi)]
    simp only [at_get h hi, at_arr h hi, at_chk h hi, cond_true, Option.bind_some, at_next' h hi hl, ih ()]
    rfl
theorem R_si (fuel : Nat) (L : List Row) (hL : L.length < 1099511627776) : ∀ (l pre : List Row) (x : Row) (i : Int), L = pre ++ x :: l → i = (pre.length + 1 : Nat) → R_i_IsSorted_0 fuel L l i = some [(true, .b (adj (x :: l)))]
  | [], pre, x, i, h, hi => rfl
  | y :: l, pre, x, i, h, hi => by
    have hl := congrArg List.length h
    simp at hl
    have hw : IntKind.i64.wrap (i - 1) = (pre.length : Nat) := by rw [wrap64 (by omega) (by omega)]; omega
    have ih := R_si fuel L hL l (pre ++ [x]) y (i + 1) (by simp [h]) (by simp; omega)
    rw [R_i_IsSorted_0, hw, h, geti_app rfl]
    simp only [Option.bind_some, cmpB_lt', Bool.not_not, adj]
    rw [← h, ih]
    by_cases hc : leR x y <;> simp [hc]
theorem run_i_IsSorted (p0 : List Row) (h : lil p0.length = true) : runF (E_i_IsSorted BIG) Try.f75 [.sl .row p0] = some [(true, .b (sortedB p0))] := by
  have hs := lil_iff.1 h
  rw [top_i_IsSorted, ← adj_eq]
  cases p0 with
  | nil =>
    obtain ⟨k, hk⟩ := bigS
    have : X_i_IsSorted_0 BIG BIG [] 1 = X_i_IsSorted_0 BIG (k + 1) [] 1 := by rw [← hk]
    rw [this, st_i_IsSorted_0]; rfl
  | cons x l =>
    rw [lp_i_IsSorted_0 BIG (x :: l) (lil_small hs) l [x] BIG 1 rfl rfl (lil_big (by simp at hs; omega)), R_si BIG _ (lil_small hs) l [] x 1 rfl rfl]
def F_i_IsSorted : Ai.Fn := ⟨[(false, [.sl .row])], [(false, 1)], false, fun ds => match ds with | [.sl .row p0] => lil p0.length | _ => false, fun ds => match ds with | [.sl .row p0] => some [(true, .b (sortedB p0))] | _ => none⟩
theorem fg_i_IsSorted : Try.prog.funcs[75]? = some Try.f75 := by kernel_rfl
theorem c_i_IsSorted : Ctr Try.prog 75 F_i_IsSorted := by
  refine ctr_of_run (code := Try.f75.body.getD .skip) mixed fg_i_IsSorted (by kernel_rfl) (Nat.le_of_ble_eq_true (by kernel_rfl)) (Nat.le_of_ble_eq_true (by kernel_rfl)) fun ds out hd hr => ?_
  dsimp only [F_i_IsSorted] at hd hr
  split at hd
  · simp only [Option.some.injEq] at hr
    subst hr
    exact ⟨E_i_IsSorted BIG, tys_ok tysB_ok, FnsL.cons (fn_ok c_i_CompareRows) fg_i_CompareRows rfl rfl (FnsL.nil), rfl, by kernel_rfl, by kernel_rfl, run_i_IsSorted _ hd⟩
  · cases hd

/- Costs. -/
theorem vRow_iff {r : Row} : vRow r = true ↔ (0 ≤ r.k ∧ r.k ≤ 9) ∧ (0 ≤ r.v ∧ r.v ≤ 99) ∧ (0 ≤ r.w ∧ r.w ≤ 3) := by simp [vRow, inB, and_assoc]
theorem cost_wrap (r : Row) : cond (!vRow r) 0 (IntKind.i64.wrap (1 + r.w)) = cost r := by
  unfold cost
  cases h : vRow r with
  | false => rfl
  | true => have := vRow_iff.1 h; simp only [Bool.not_true, cond_false, if_true]; rw [wrap64 (by omega) (by omega)]
theorem cost_bd (r : Row) : 0 ≤ cost r ∧ cost r ≤ 4 := by
  unfold cost
  split
  · have := vRow_iff.1 (by assumption); omega
  · omega
theorem tot_bd : ∀ l : List Row, 0 ≤ tot l ∧ tot l ≤ 4 * l.length
  | [] => by simp [tot]
  | r :: l => by have := tot_bd l; have := cost_bd r; simp only [tot, List.length_cons]; omega
def E_s_RowCost (fuel : Nat) : Env := ⟨tys, [(70, callFn F_s_IsValidRow)], [], fuel, 9, 0⟩
theorem top_s_RowCost (fuel : Nat) (p0_0 : Int) (p0_1 : Int) (p0_2 : Int) : runF (E_s_RowCost fuel) Try.f133 [.i .i64 p0_0, .i .i64 p0_1, .i .i64 p0_2] =
 cond (!(vRow ⟨p0_0, p0_1, p0_2⟩))
 (some [(true, .i .i64 0)])
 (some [(true, .i .i64 (IntKind.i64.wrap (1 + p0_2)))]) := by kernel_rfl
theorem run_s_RowCost (a b c : Int) (_ : true = true) : runF (E_s_RowCost BIG) Try.f133 [.i .i64 a, .i .i64 b, .i .i64 c] = some [(true, .i .i64 (cost ⟨a, b, c⟩))] := by
  rw [top_s_RowCost, ← cost_wrap]
  cases vRow ⟨a, b, c⟩ <;> rfl
def F_s_RowCost : Ai.Fn := ⟨[(true, [.sc, .sc, .sc])], [(false, 1)], false, fun ds => match ds with | [.i .i64 p0_0, .i .i64 p0_1, .i .i64 p0_2] => true | _ => false, fun ds => match ds with | [.i .i64 p0_0, .i .i64 p0_1, .i .i64 p0_2] => some [(true, .i .i64 (cost ⟨p0_0, p0_1, p0_2⟩))] | _ => none⟩
theorem fg_s_RowCost : Try.prog.funcs[133]? = some Try.f133 := by kernel_rfl
theorem c_s_RowCost : Ctr Try.prog 133 F_s_RowCost := by
  refine ctr_of_run (code := Try.f133.body.getD .skip) mixed fg_s_RowCost (by kernel_rfl) (Nat.le_of_ble_eq_true (by kernel_rfl)) (Nat.le_of_ble_eq_true (by kernel_rfl)) fun ds out hd hr => ?_
  dsimp only [F_s_RowCost] at hd hr
  split at hd
  · simp only [Option.some.injEq] at hr
    subst hr
    exact ⟨E_s_RowCost BIG, tys_ok tysB_ok, FnsL.cons (fn_ok c_s_IsValidRow) fg_s_IsValidRow rfl rfl (FnsL.nil), rfl, by kernel_rfl, by kernel_rfl, run_s_RowCost _ _ _ hd⟩
  · cases hd
def E_i_RowCost (fuel : Nat) : Env := ⟨tys, [(122, callFn F_i_IsValidRow)], [], fuel, 9, 0⟩
theorem top_i_RowCost (fuel : Nat) (p0_0 : Int) (p0_1 : Int) (p0_2 : Int) : runF (E_i_RowCost fuel) Try.f134 [.i .i64 p0_0, .i .i64 p0_1, .i .i64 p0_2] =
 cond (!(r_i_IsValidRow_0 p0_0 p0_1 p0_2))
 (some [(true, .i .i64 0)])
 (some [(true, .i .i64 (IntKind.i64.wrap (1 + p0_2)))]) := by kernel_rfl
theorem run_i_RowCost (a b c : Int) (_ : true = true) : runF (E_i_RowCost BIG) Try.f134 [.i .i64 a, .i .i64 b, .i .i64 c] = some [(true, .i .i64 (cost ⟨a, b, c⟩))] := by
  rw [top_i_RowCost, ← cost_wrap, ivr_eq]
  cases vRow ⟨a, b, c⟩ <;> rfl
def F_i_RowCost : Ai.Fn := ⟨[(true, [.sc, .sc, .sc])], [(false, 1)], false, fun ds => match ds with | [.i .i64 p0_0, .i .i64 p0_1, .i .i64 p0_2] => true | _ => false, fun ds => match ds with | [.i .i64 p0_0, .i .i64 p0_1, .i .i64 p0_2] => some [(true, .i .i64 (cost ⟨p0_0, p0_1, p0_2⟩))] | _ => none⟩
theorem fg_i_RowCost : Try.prog.funcs[134]? = some Try.f134 := by kernel_rfl
theorem c_i_RowCost : Ctr Try.prog 134 F_i_RowCost := by
  refine ctr_of_run (code := Try.f134.body.getD .skip) mixed fg_i_RowCost (by kernel_rfl) (Nat.le_of_ble_eq_true (by kernel_rfl)) (Nat.le_of_ble_eq_true (by kernel_rfl)) fun ds out hd hr => ?_
  dsimp only [F_i_RowCost] at hd hr
  split at hd
  · simp only [Option.some.injEq] at hr
    subst hr
    exact ⟨E_i_RowCost BIG, tys_ok tysB_ok, FnsL.cons (fn_ok c_i_IsValidRow) fg_i_IsValidRow rfl rfl (FnsL.nil), rfl, by kernel_rfl, by kernel_rfl, run_i_RowCost _ _ _ hd⟩
  · cases hd
def E_s_TotalCost (fuel : Nat) : Env := ⟨tys, [(133, callFn F_s_RowCost)], [(0, ([(0, .p), (3, .p), (4, .p)], 19))], fuel, 19, 0⟩
noncomputable def X_s_TotalCost_0 (fuel : Nat) (n : Nat)  (v0 : List Row) (v3 : Int) (v4 : Int) : Res := loopF (E_s_TotalCost fuel) Try.f117 [1, 1, 0, 1] [] n ⟨upds (fun _ => cU) [(0, .av (.one (.d (.sl .row v0)))), (3, .av (.one (.d (.i .i64 v3)))), (4, .av (.one (.d (.i .i64 v4))))], 19⟩
theorem top_s_TotalCost (fuel : Nat) (p0 : List Row) : runF (E_s_TotalCost fuel) Try.f117 [.sl .row p0] =
 X_s_TotalCost_0 fuel fuel p0 0 0 := by kernel_rfl
theorem st_s_TotalCost_0 (fuel : Nat) (n : Nat)  (v0 : List Row) (v3 : Int) (v4 : Int) : X_s_TotalCost_0 fuel (n + 1) v0 v3 v4 =
 cond (decide (v4 < (v0.length : Int)))
 (Option.bind (geti v0 v4) fun e1 => X_s_TotalCost_0 fuel n v0 (IntKind.i64.wrap (v3 + (cost e1))) (IntKind.i64.wrap (v4 + 1)))
 (some [(true, .i .i64 v3)]) := by kernel_rfl
noncomputable def R_s_TotalCost_0 (fuel : Nat) (v0 : List Row) : List Row → Int → Int → Res
  | [], v4, v3 => some [(true, .i .i64 v3)]
  | e0 :: r, v4, v3 => R_s_TotalCost_0 fuel v0 r (v4 + 1) (IntKind.i64.wrap (v3 + (cost e0)))
theorem lp_s_TotalCost_0 (fuel : Nat) (v0 : List Row) (hl : v0.length < 1099511627776) : ∀ (suf pre : List Row) (n : Nat) (v4 : Int) (v3 : Int), v0 = pre ++ suf → v4 = pre.length → suf.length < n → X_s_TotalCost_0 fuel n v0 v3 v4 = R_s_TotalCost_0 fuel v0 suf v4 v3
  | [], pre, n, v4, v3, h, hi, hn => by
    obtain ⟨k, rfl, -⟩ := bump hn
    rw [st_s_TotalCost_0, cond_false' (at_end h hi)]
    rfl
  | e0 :: suf, pre, n, v4, v3, h, hi, hn => by
    obtain ⟨k, rfl, hk⟩ := bump hn
    have ih := fun (q_v3 : Int) => lp_s_TotalCost_0 fuel v0 hl suf (pre ++ [e0]) k (v4 + 1) q_v3 (at_step h) (at_idx hi) hk
    rw [st_s_TotalCost_0, cond_true' (at_mid h hi)]
    simp only [at_get h hi, at_arr h hi, at_chk h hi, cond_true, Option.bind_some, at_next' h hi hl, ih]
    rfl
theorem R_ts (fuel : Nat) (L : List Row) : ∀ (l : List Row) (i s : Int), 0 ≤ s → s + 4 * l.length < 4611686018427387904 → R_s_TotalCost_0 fuel L l i s = some [(true, .i .i64 (s + tot l))]
  | [], i, s, _, _ => by simp [R_s_TotalCost_0, tot]
  | e :: l, i, s, h0, h1 => by
    have := cost_bd e
    simp only [List.length_cons] at h1
    rw [R_s_TotalCost_0, wrap64 (by omega) (by omega), R_ts fuel L l _ _ (by omega) (by omega), tot, Int.add_assoc]
theorem run_s_TotalCost (p0 : List Row) (h : lil p0.length = true) : runF (E_s_TotalCost BIG) Try.f117 [.sl .row p0] = some [(true, .i .i64 (tot p0))] := by
  have hs := lil_iff.1 h
  rw [top_s_TotalCost, lp_s_TotalCost_0 BIG p0 (lil_small hs) p0 [] BIG 0 0 rfl rfl (lil_big hs), R_ts BIG p0 p0 0 0 (by omega) (by omega), Int.zero_add]
def F_s_TotalCost : Ai.Fn := ⟨[(false, [.sl .row])], [(false, 1)], false, fun ds => match ds with | [.sl .row p0] => lil p0.length | _ => false, fun ds => match ds with | [.sl .row p0] => some [(true, .i .i64 (tot p0))] | _ => none⟩
theorem fg_s_TotalCost : Try.prog.funcs[117]? = some Try.f117 := by kernel_rfl
theorem c_s_TotalCost : Ctr Try.prog 117 F_s_TotalCost := by
  refine ctr_of_run (code := Try.f117.body.getD .skip) mixed fg_s_TotalCost (by kernel_rfl) (Nat.le_of_ble_eq_true (by kernel_rfl)) (Nat.le_of_ble_eq_true (by kernel_rfl)) fun ds out hd hr => ?_
  dsimp only [F_s_TotalCost] at hd hr
  split at hd
  · simp only [Option.some.injEq] at hr
    subst hr
    exact ⟨E_s_TotalCost BIG, tys_ok tysB_ok, FnsL.cons (fn_ok c_s_RowCost) fg_s_RowCost rfl rfl (FnsL.nil), rfl, by kernel_rfl, by kernel_rfl, run_s_TotalCost _ hd⟩
  · cases hd
def E_i_TotalCost (fuel : Nat) : Env := ⟨tys, [(134, callFn F_i_RowCost)], [(0, ([(3, .p), (6, .p), (7, .p), (8, .p)], 18))], fuel, 18, 0⟩
noncomputable def X_i_TotalCost_0 (fuel : Nat) (n : Nat)  (v3 : Int) (v6 : List Row) (v7 : Int) (v8 : Int) : Res := loopF (E_i_TotalCost fuel) Try.f120 [1, 1, 0, 1] [] n ⟨upds (fun _ => cU) [(3, .av (.one (.d (.i .i64 v3)))), (6, .av (.one (.d (.sl .row v6)))), (7, .av (.one (.d (.i .i64 v7)))), (8, .av (.one (.d (.i .i64 v8))))], 18⟩
theorem top_i_TotalCost (fuel : Nat) (p0 : List Row) : runF (E_i_TotalCost fuel) Try.f120 [.sl .row p0] =
 X_i_TotalCost_0 fuel fuel 0 p0 (p0.length : Int) 0 := by kernel_rfl
theorem st_i_TotalCost_0 (fuel : Nat) (n : Nat)  (v3 : Int) (v6 : List Row) (v7 : Int) (v8 : Int) : X_i_TotalCost_0 fuel (n + 1) v3 v6 v7 v8 =
 cond (decide (v8 < v7))
 (Option.bind (geti v6 v8) fun e1 => X_i_TotalCost_0 fuel n (IntKind.i64.wrap (v3 + (cost e1))) v6 v7 (IntKind.i64.wrap (v8 + 1)))
 (some [(true, .i .i64 v3)]) := by kernel_rfl
noncomputable def R_i_TotalCost_0 (fuel : Nat) (v6 : List Row) : List Row → Int → Int → Res
  | [], v8, v3 => some [(true, .i .i64 v3)]
  | e0 :: r, v8, v3 => R_i_TotalCost_0 fuel v6 r (v8 + 1) (IntKind.i64.wrap (v3 + (cost e0)))
theorem lp_i_TotalCost_0 (fuel : Nat) (v6 : List Row) (hl : v6.length < 1099511627776) : ∀ (suf pre : List Row) (n : Nat) (v8 : Int) (v3 : Int), v6 = pre ++ suf → v8 = pre.length → suf.length < n → X_i_TotalCost_0 fuel n v3 v6 (v6.length : Int) v8 = R_i_TotalCost_0 fuel v6 suf v8 v3
  | [], pre, n, v8, v3, h, hi, hn => by
    obtain ⟨k, rfl, -⟩ := bump hn
    rw [st_i_TotalCost_0, cond_false' (at_end h hi)]
    rfl
  | e0 :: suf, pre, n, v8, v3, h, hi, hn => by
    obtain ⟨k, rfl, hk⟩ := bump hn
    have ih := fun (q_v3 : Int) => lp_i_TotalCost_0 fuel v6 hl suf (pre ++ [e0]) k (v8 + 1) q_v3 (at_step h) (at_idx hi) hk
    rw [st_i_TotalCost_0, cond_true' (at_mid h hi)]
    simp only [at_get h hi, at_arr h hi, at_chk h hi, cond_true, Option.bind_some, at_next' h hi hl, ih]
    rfl
theorem R_ti (fuel : Nat) (L : List Row) : ∀ (l : List Row) (i s : Int), 0 ≤ s → s + 4 * l.length < 4611686018427387904 → R_i_TotalCost_0 fuel L l i s = some [(true, .i .i64 (s + tot l))]
  | [], i, s, _, _ => by simp [R_i_TotalCost_0, tot]
  | e :: l, i, s, h0, h1 => by
    have := cost_bd e
    simp only [List.length_cons] at h1
    rw [R_i_TotalCost_0, wrap64 (by omega) (by omega), R_ti fuel L l _ _ (by omega) (by omega), tot, Int.add_assoc]
theorem run_i_TotalCost (p0 : List Row) (h : lil p0.length = true) : runF (E_i_TotalCost BIG) Try.f120 [.sl .row p0] = some [(true, .i .i64 (tot p0))] := by
  have hs := lil_iff.1 h
  rw [top_i_TotalCost, lp_i_TotalCost_0 BIG p0 (lil_small hs) p0 [] BIG 0 0 rfl rfl (lil_big hs), R_ti BIG p0 p0 0 0 (by omega) (by omega), Int.zero_add]
def F_i_TotalCost : Ai.Fn := ⟨[(false, [.sl .row])], [(false, 1)], false, fun ds => match ds with | [.sl .row p0] => lil p0.length | _ => false, fun ds => match ds with | [.sl .row p0] => some [(true, .i .i64 (tot p0))] | _ => none⟩
theorem fg_i_TotalCost : Try.prog.funcs[120]? = some Try.f120 := by kernel_rfl
theorem c_i_TotalCost : Ctr Try.prog 120 F_i_TotalCost := by
  refine ctr_of_run (code := Try.f120.body.getD .skip) mixed fg_i_TotalCost (by kernel_rfl) (Nat.le_of_ble_eq_true (by kernel_rfl)) (Nat.le_of_ble_eq_true (by kernel_rfl)) fun ds out hd hr => ?_
  dsimp only [F_i_TotalCost] at hd hr
  split at hd
  · simp only [Option.some.injEq] at hr
    subst hr
    exact ⟨E_i_TotalCost BIG, tys_ok tysB_ok, FnsL.cons (fn_ok c_i_RowCost) fg_i_RowCost rfl rfl (FnsL.nil), rfl, by kernel_rfl, by kernel_rfl, run_i_TotalCost _ hd⟩
  · cases hd

/- Copies and equality. -/
def E_i_clone (fuel : Nat) : Env := ⟨tys, [], [], fuel, 5, 0⟩
theorem top_i_clone (fuel : Nat) (p0 : List Row) : runF (E_i_clone fuel) Try.f83 [.sl .row p0] =
 cond (lim p0.length) (some [(true, .sl .row p0)]) none := by kernel_rfl
theorem run_i_clone (p0 : List Row) (h : lil p0.length = true) : runF (E_i_clone BIG) Try.f83 [.sl .row p0] = some [(true, .sl .row p0)] := by
  rw [top_i_clone, cond_true' (lil_lim (lil_iff.1 h))]
def F_i_clone : Ai.Fn := ⟨[(false, [.sl .row])], [(false, 1)], false, fun ds => match ds with | [.sl .row p0] => lil p0.length | _ => false, fun ds => match ds with | [.sl .row p0] => some [(true, .sl .row (p0))] | _ => none⟩
theorem fg_i_clone : Try.prog.funcs[83]? = some Try.f83 := by kernel_rfl
theorem c_i_clone : Ctr Try.prog 83 F_i_clone := by
  refine ctr_of_run (code := Try.f83.body.getD .skip) mixed fg_i_clone (by kernel_rfl) (Nat.le_of_ble_eq_true (by kernel_rfl)) (Nat.le_of_ble_eq_true (by kernel_rfl)) fun ds out hd hr => ?_
  dsimp only [F_i_clone] at hd hr
  split at hd
  · simp only [Option.some.injEq] at hr
    subst hr
    exact ⟨E_i_clone BIG, tys_ok tysB_ok, FnsL.nil, rfl, by kernel_rfl, by kernel_rfl, run_i_clone _ hd⟩
  · cases hd
theorem rowEq (a b : Row) : (decide (a.k = b.k) && (decide (a.v = b.v) && (decide (a.w = b.w) && true))) = decide (a = b) := by
  obtain ⟨a1, a2, a3⟩ := a
  obtain ⟨b1, b2, b3⟩ := b
  simp only [Row.mk.injEq, Bool.and_true, Bool.decide_and]
def E_s_l6Rows (fuel : Nat) : Env := ⟨tys, [], [(0, ([(0, .p), (1, .p), (5, .p)], 26))], fuel, 26, 0⟩
noncomputable def X_s_l6Rows_0 (fuel : Nat) (n : Nat)  (v0 : List Row) (v1 : List Row) (v5 : Int) : Res := loopF (E_s_l6Rows fuel) Try.f28 [1, 1, 0, 1] [] n ⟨upds (fun _ => cU) [(0, .av (.one (.d (.sl .row v0)))), (1, .av (.one (.d (.sl .row v1)))), (5, .av (.one (.d (.i .i64 v5))))], 26⟩
theorem top_s_l6Rows (fuel : Nat) (p0 : List Row) (p1 : List Row) : runF (E_s_l6Rows fuel) Try.f28 [.sl .row p0, .sl .row p1] =
 cond (!decide ((p0.length : Int) = (p1.length : Int)))
 (some [(true, .b false)])
 (X_s_l6Rows_0 fuel fuel p0 p1 0) := by kernel_rfl
theorem st_s_l6Rows_0 (fuel : Nat) (n : Nat)  (v0 : List Row) (v1 : List Row) (v5 : Int) : X_s_l6Rows_0 fuel (n + 1) v0 v1 v5 =
 cond (decide (v5 < (v0.length : Int)))
 (Option.bind (geti v0 v5) fun e1 => Option.bind (geti v1 v5) fun e2 => cond (!(decide (e1.k = e2.k) && (decide (e1.v = e2.v) && (decide (e1.w = e2.w) && true))))
 (some [(true, .b false)])
 (X_s_l6Rows_0 fuel n v0 v1 (IntKind.i64.wrap (v5 + 1))))
 (some [(true, .b true)]) := by kernel_rfl
noncomputable def R_s_l6Rows_0 (fuel : Nat) (v0 : List Row) : List Row → Int → List Row → Res
  | [], v5, v1 => some [(true, .b true)]
  | e0 :: r, v5, v1 => Option.bind (geti v1 v5) fun e2 => cond (!(decide (e0.k = e2.k) && (decide (e0.v = e2.v) && (decide (e0.w = e2.w) && true))))
       (some [(true, .b false)])
       (R_s_l6Rows_0 fuel v0 r (v5 + 1) v1)
theorem lp_s_l6Rows_0 (fuel : Nat) (v0 : List Row) (hl : v0.length < 1099511627776) : ∀ (suf pre : List Row) (n : Nat) (v5 : Int) (v1 : List Row), v0 = pre ++ suf → v5 = pre.length → suf.length < n → X_s_l6Rows_0 fuel n v0 v1 v5 = R_s_l6Rows_0 fuel v0 suf v5 v1
  | [], pre, n, v5, v1, h, hi, hn => by
    obtain ⟨k, rfl, -⟩ := bump hn
    rw [st_s_l6Rows_0, cond_false' (at_end h hi)]
    rfl
  | e0 :: suf, pre, n, v5, v1, h, hi, hn => by
    obtain ⟨k, rfl, hk⟩ := bump hn
    have ih := fun (q_v1 : List Row) => lp_s_l6Rows_0 fuel v0 hl suf (pre ++ [e0]) k (v5 + 1) q_v1 (at_step h) (at_idx hi) hk
    rw [st_s_l6Rows_0, cond_true' (at_mid h hi)]
    simp only [at_get h hi, at_arr h hi, at_chk h hi, cond_true, Option.bind_some, at_next' h hi hl, ih]
    rfl
theorem R_e6 (fuel : Nat) (L : List Row) : ∀ (l l' pre : List Row) (i : Int), l.length = l'.length → i = pre.length → R_s_l6Rows_0 fuel L l i (pre ++ l') = some [(true, .b (decide (l = l')))]
  | [], [], pre, i, _, _ => rfl
  | e :: l, e' :: l', pre, i, h, hi => by
    have ih := R_e6 fuel L l l' (pre ++ [e']) (i + 1) (by simpa using h) (at_idx hi)
    simp only [List.append_assoc, List.singleton_append] at ih
    rw [R_s_l6Rows_0, geti_app hi]
    simp only [Option.bind_some, rowEq, ih]
    by_cases h1 : e = e' <;> simp [h1]
  | [], _ :: _, _, _, h, _ => by simp at h
  | _ :: _, [], _, _, h, _ => by simp at h
theorem run_s_l6Rows (p0 p1 : List Row) (h : lil p0.length = true) : runF (E_s_l6Rows BIG) Try.f28 [.sl .row p0, .sl .row p1] = some [(true, .b (decide (p0 = p1)))] := by
  have hs := lil_iff.1 h
  rw [top_s_l6Rows]
  by_cases hl : p0.length = p1.length
  · rw [cond_false' (by simp [hl]), lp_s_l6Rows_0 BIG p0 (lil_small hs) p0 [] BIG 0 p1 rfl rfl (lil_big hs)]
    exact R_e6 BIG p0 p0 p1 [] 0 hl rfl
  · rw [cond_true' (by simp; omega)]
    have : p0 ≠ p1 := fun e => hl (by rw [e])
    simp [this]
def F_s_l6Rows : Ai.Fn := ⟨[(false, [.sl .row]), (false, [.sl .row])], [(false, 1)], false, fun ds => match ds with | [.sl .row p0, .sl .row p1] => lil p0.length | _ => false, fun ds => match ds with | [.sl .row p0, .sl .row p1] => some [(true, .b (decide (p0 = p1)))] | _ => none⟩
theorem fg_s_l6Rows : Try.prog.funcs[28]? = some Try.f28 := by kernel_rfl
theorem c_s_l6Rows : Ctr Try.prog 28 F_s_l6Rows := by
  refine ctr_of_run (code := Try.f28.body.getD .skip) mixed fg_s_l6Rows (by kernel_rfl) (Nat.le_of_ble_eq_true (by kernel_rfl)) (Nat.le_of_ble_eq_true (by kernel_rfl)) fun ds out hd hr => ?_
  dsimp only [F_s_l6Rows] at hd hr
  split at hd
  · simp only [Option.some.injEq] at hr
    subst hr
    exact ⟨E_s_l6Rows BIG, tys_ok tysB_ok, FnsL.nil, rfl, by kernel_rfl, by kernel_rfl, run_s_l6Rows _ _ hd⟩
  · cases hd
def E_i_equal (fuel : Nat) : Env := ⟨tys, [], [(0, ([(0, .p), (1, .p), (12, .p), (13, .p)], 26))], fuel, 26, 0⟩
noncomputable def X_i_equal_0 (fuel : Nat) (n : Nat)  (v0 : List Row) (v1 : List Row) (v12 : Int) (v13 : Int) : Res := loopF (E_i_equal fuel) Try.f35 [1, 1, 0, 1] [] n ⟨upds (fun _ => cU) [(0, .av (.one (.d (.sl .row v0)))), (1, .av (.one (.d (.sl .row v1)))), (12, .av (.one (.d (.i .i64 v12)))), (13, .av (.one (.d (.i .i64 v13))))], 26⟩
theorem top_i_equal (fuel : Nat) (p0 : List Row) (p1 : List Row) : runF (E_i_equal fuel) Try.f35 [.sl .row p0, .sl .row p1] =
 cond (!decide ((p0.length : Int) = (p1.length : Int)))
 (some [(true, .b false)])
 (X_i_equal_0 fuel fuel p0 p1 (p0.length : Int) 0) := by kernel_rfl
theorem st_i_equal_0 (fuel : Nat) (n : Nat)  (v0 : List Row) (v1 : List Row) (v12 : Int) (v13 : Int) : X_i_equal_0 fuel (n + 1) v0 v1 v12 v13 =
 cond (decide (v13 < v12))
 (Option.bind (geti v0 v13) fun e1 => Option.bind (geti v1 v13) fun e2 => cond (!(decide (e1.k = e2.k) && (decide (e1.v = e2.v) && (decide (e1.w = e2.w) && true))))
 (some [(true, .b false)])
 (X_i_equal_0 fuel n v0 v1 v12 (IntKind.i64.wrap (v13 + 1))))
 (some [(true, .b true)]) := by kernel_rfl
noncomputable def R_i_equal_0 (fuel : Nat) (v0 : List Row) : List Row → Int → List Row → Res
  | [], v13, v1 => some [(true, .b true)]
  | e0 :: r, v13, v1 => Option.bind (geti v1 v13) fun e2 => cond (!(decide (e0.k = e2.k) && (decide (e0.v = e2.v) && (decide (e0.w = e2.w) && true))))
       (some [(true, .b false)])
       (R_i_equal_0 fuel v0 r (v13 + 1) v1)
theorem lp_i_equal_0 (fuel : Nat) (v0 : List Row) (hl : v0.length < 1099511627776) : ∀ (suf pre : List Row) (n : Nat) (v13 : Int) (v1 : List Row), v0 = pre ++ suf → v13 = pre.length → suf.length < n → X_i_equal_0 fuel n v0 v1 (v0.length : Int) v13 = R_i_equal_0 fuel v0 suf v13 v1
  | [], pre, n, v13, v1, h, hi, hn => by
    obtain ⟨k, rfl, -⟩ := bump hn
    rw [st_i_equal_0, cond_false' (at_end h hi)]
    rfl
  | e0 :: suf, pre, n, v13, v1, h, hi, hn => by
    obtain ⟨k, rfl, hk⟩ := bump hn
    have ih := fun (q_v1 : List Row) => lp_i_equal_0 fuel v0 hl suf (pre ++ [e0]) k (v13 + 1) q_v1 (at_step h) (at_idx hi) hk
    rw [st_i_equal_0, cond_true' (at_mid h hi)]
    simp only [at_get h hi, at_arr h hi, at_chk h hi, cond_true, Option.bind_some, at_next' h hi hl, ih]
    rfl
theorem R_ei (fuel : Nat) (L : List Row) : ∀ (l l' pre : List Row) (i : Int), l.length = l'.length → i = pre.length → R_i_equal_0 fuel L l i (pre ++ l') = some [(true, .b (decide (l = l')))]
  | [], [], pre, i, _, _ => rfl
  | e :: l, e' :: l', pre, i, h, hi => by
    have ih := R_ei fuel L l l' (pre ++ [e']) (i + 1) (by simpa using h) (at_idx hi)
    simp only [List.append_assoc, List.singleton_append] at ih
    rw [R_i_equal_0, geti_app hi]
    simp only [Option.bind_some, rowEq, ih]
    by_cases h1 : e = e' <;> simp [h1]
  | [], _ :: _, _, _, h, _ => by simp at h
  | _ :: _, [], _, _, h, _ => by simp at h
theorem run_i_equal (p0 p1 : List Row) (h : lil p0.length = true) : runF (E_i_equal BIG) Try.f35 [.sl .row p0, .sl .row p1] = some [(true, .b (decide (p0 = p1)))] := by
  have hs := lil_iff.1 h
  rw [top_i_equal]
  by_cases hl : p0.length = p1.length
  · rw [cond_false' (by simp [hl]), lp_i_equal_0 BIG p0 (lil_small hs) p0 [] BIG 0 p1 rfl rfl (lil_big hs)]
    exact R_ei BIG p0 p0 p1 [] 0 hl rfl
  · rw [cond_true' (by simp; omega)]
    have : p0 ≠ p1 := fun e => hl (by rw [e])
    simp [this]
def F_i_equal : Ai.Fn := ⟨[(false, [.sl .row]), (false, [.sl .row])], [(false, 1)], false, fun ds => match ds with | [.sl .row p0, .sl .row p1] => lil p0.length | _ => false, fun ds => match ds with | [.sl .row p0, .sl .row p1] => some [(true, .b (decide (p0 = p1)))] | _ => none⟩
theorem fg_i_equal : Try.prog.funcs[35]? = some Try.f35 := by kernel_rfl
theorem c_i_equal : Ctr Try.prog 35 F_i_equal := by
  refine ctr_of_run (code := Try.f35.body.getD .skip) mixed fg_i_equal (by kernel_rfl) (Nat.le_of_ble_eq_true (by kernel_rfl)) (Nat.le_of_ble_eq_true (by kernel_rfl)) fun ds out hd hr => ?_
  dsimp only [F_i_equal] at hd hr
  split at hd
  · simp only [Option.some.injEq] at hr
    subst hr
    exact ⟨E_i_equal BIG, tys_ok tysB_ok, FnsL.nil, rfl, by kernel_rfl, by kernel_rfl, run_i_equal _ _ hd⟩
  · cases hd

/- Rows of several lists. -/
def E_s_FlattenRuns (fuel : Nat) : Env := ⟨tys, [], [(0, ([(0, .p), (3, .a .row 20), (4, .p)], 21))], fuel, 20, 0⟩
noncomputable def X_s_FlattenRuns_0 (fuel : Nat) (n : Nat)  (v0 : List (List Row)) (v3 : List Row) (v4 : Int) : Res := loopF (E_s_FlattenRuns fuel) Try.f66 [1, 1, 0, 1] [] n ⟨upds (fun _ => cU) [(0, .av (.one (.d (.sl .run v0)))), (3, .av (.one (.ls 20 0 none))), (20, .arr .row true v3), (4, .av (.one (.d (.i .i64 v4))))], 21⟩
theorem top_s_FlattenRuns (fuel : Nat) (p0 : List (List Row)) : runF (E_s_FlattenRuns fuel) Try.f66 [.sl .run p0] =
 X_s_FlattenRuns_0 fuel fuel p0 ([] : List Row) 0 := by kernel_rfl
theorem st_s_FlattenRuns_0 (fuel : Nat) (n : Nat)  (v0 : List (List Row)) (v3 : List Row) (v4 : Int) : X_s_FlattenRuns_0 fuel (n + 1) v0 v3 v4 =
 cond (decide (v4 < (v0.length : Int)))
 (Option.bind (geti v0 v4) fun e1 => cond (lim (v3.length + e1.length)) (X_s_FlattenRuns_0 fuel n v0 (v3 ++ e1) (IntKind.i64.wrap (v4 + 1))) none)
 (some [(true, .sl .row v3)]) := by kernel_rfl
noncomputable def R_s_FlattenRuns_0 (fuel : Nat) (v0 : List (List Row)) : List (List Row) → Int → List Row → Res
  | [], v4, v3 => some [(true, .sl .row v3)]
  | e0 :: r, v4, v3 => cond (lim (v3.length + e0.length)) (R_s_FlattenRuns_0 fuel v0 r (v4 + 1) (v3 ++ e0)) none
theorem lp_s_FlattenRuns_0 (fuel : Nat) (v0 : List (List Row)) (hl : v0.length < 1099511627776) : ∀ (suf pre : List (List Row)) (n : Nat) (v4 : Int) (v3 : List Row), v0 = pre ++ suf → v4 = pre.length → suf.length < n → X_s_FlattenRuns_0 fuel n v0 v3 v4 = R_s_FlattenRuns_0 fuel v0 suf v4 v3
  | [], pre, n, v4, v3, h, hi, hn => by
    obtain ⟨k, rfl, -⟩ := bump hn
    rw [st_s_FlattenRuns_0, cond_false' (at_end h hi)]
    rfl
  | e0 :: suf, pre, n, v4, v3, h, hi, hn => by
    obtain ⟨k, rfl, hk⟩ := bump hn
    have ih := fun (q_v3 : List Row) => lp_s_FlattenRuns_0 fuel v0 hl suf (pre ++ [e0]) k (v4 + 1) q_v3 (at_step h) (at_idx hi) hk
    rw [st_s_FlattenRuns_0, cond_true' (at_mid h hi)]
    simp only [at_get h hi, at_arr h hi, at_chk h hi, cond_true, Option.bind_some, at_next' h hi hl, ih]
    rfl
theorem R_fs (fuel : Nat) (L : List (List Row)) : ∀ (l : List (List Row)) (i : Int) (acc : List Row), acc.length + l.flatten.length < 17179869184 → R_s_FlattenRuns_0 fuel L l i acc = some [(true, .sl .row (acc ++ l.flatten))]
  | [], i, acc, _ => by simp [R_s_FlattenRuns_0]
  | e :: l, i, acc, h => by
    simp only [List.flatten_cons, List.length_append] at h
    rw [R_s_FlattenRuns_0, cond_true' (lil_lim (by omega)), R_fs fuel L l _ _ (by simp only [List.length_append]; omega)]
    simp
def lilRuns (l : List (List Row)) : Bool := lil l.length && lil l.flatten.length
theorem lilRuns_iff {l : List (List Row)} : lilRuns l = true ↔ l.length < 17179869184 ∧ l.flatten.length < 17179869184 := by simp [lilRuns, lil]
theorem run_s_FlattenRuns (p0 : List (List Row)) (h : lilRuns p0 = true) : runF (E_s_FlattenRuns BIG) Try.f66 [.sl .run p0] = some [(true, .sl .row p0.flatten)] := by
  obtain ⟨hs, h2⟩ := lilRuns_iff.1 h
  rw [top_s_FlattenRuns, lp_s_FlattenRuns_0 BIG p0 (lil_small hs) p0 [] BIG 0 [] rfl rfl (lil_big hs), R_fs BIG p0 p0 0 [] (by simpa using h2)]
  rfl
def F_s_FlattenRuns : Ai.Fn := ⟨[(false, [.sl .run])], [(false, 1)], false, fun ds => match ds with | [.sl .run p0] => lilRuns p0 | _ => false, fun ds => match ds with | [.sl .run p0] => some [(true, .sl .row (p0.flatten))] | _ => none⟩
theorem fg_s_FlattenRuns : Try.prog.funcs[66]? = some Try.f66 := by kernel_rfl
theorem c_s_FlattenRuns : Ctr Try.prog 66 F_s_FlattenRuns := by
  refine ctr_of_run (code := Try.f66.body.getD .skip) mixed fg_s_FlattenRuns (by kernel_rfl) (Nat.le_of_ble_eq_true (by kernel_rfl)) (Nat.le_of_ble_eq_true (by kernel_rfl)) fun ds out hd hr => ?_
  dsimp only [F_s_FlattenRuns] at hd hr
  split at hd
  · simp only [Option.some.injEq] at hr
    subst hr
    exact ⟨E_s_FlattenRuns BIG, tys_ok tysB_ok, FnsL.nil, rfl, by kernel_rfl, by kernel_rfl, run_s_FlattenRuns _ hd⟩
  · cases hd
def E_i_FlattenRuns (fuel : Nat) : Env := ⟨tys, [], [(0, ([(3, .a .row 19), (7, .p), (8, .p), (9, .p)], 20))], fuel, 19, 0⟩
noncomputable def X_i_FlattenRuns_0 (fuel : Nat) (n : Nat)  (v3 : List Row) (v7 : List (List Row)) (v8 : Int) (v9 : Int) : Res := loopF (E_i_FlattenRuns fuel) Try.f77 [1, 1, 0, 1] [] n ⟨upds (fun _ => cU) [(3, .av (.one (.ls 19 0 none))), (19, .arr .row true v3), (7, .av (.one (.d (.sl .run v7)))), (8, .av (.one (.d (.i .i64 v8)))), (9, .av (.one (.d (.i .i64 v9))))], 20⟩
theorem top_i_FlattenRuns (fuel : Nat) (p0 : List (List Row)) : runF (E_i_FlattenRuns fuel) Try.f77 [.sl .run p0] =
 X_i_FlattenRuns_0 fuel fuel ([] : List Row) p0 (p0.length : Int) 0 := by kernel_rfl
theorem st_i_FlattenRuns_0 (fuel : Nat) (n : Nat)  (v3 : List Row) (v7 : List (List Row)) (v8 : Int) (v9 : Int) : X_i_FlattenRuns_0 fuel (n + 1) v3 v7 v8 v9 =
 cond (decide (v9 < v8))
 (Option.bind (geti v7 v9) fun e1 => cond (lim (v3.length + e1.length)) (X_i_FlattenRuns_0 fuel n (v3 ++ e1) v7 v8 (IntKind.i64.wrap (v9 + 1))) none)
 (some [(true, .sl .row v3)]) := by kernel_rfl
noncomputable def R_i_FlattenRuns_0 (fuel : Nat) (v7 : List (List Row)) : List (List Row) → Int → List Row → Res
  | [], v9, v3 => some [(true, .sl .row v3)]
  | e0 :: r, v9, v3 => cond (lim (v3.length + e0.length)) (R_i_FlattenRuns_0 fuel v7 r (v9 + 1) (v3 ++ e0)) none
theorem lp_i_FlattenRuns_0 (fuel : Nat) (v7 : List (List Row)) (hl : v7.length < 1099511627776) : ∀ (suf pre : List (List Row)) (n : Nat) (v9 : Int) (v3 : List Row), v7 = pre ++ suf → v9 = pre.length → suf.length < n → X_i_FlattenRuns_0 fuel n v3 v7 (v7.length : Int) v9 = R_i_FlattenRuns_0 fuel v7 suf v9 v3
  | [], pre, n, v9, v3, h, hi, hn => by
    obtain ⟨k, rfl, -⟩ := bump hn
    rw [st_i_FlattenRuns_0, cond_false' (at_end h hi)]
    rfl
  | e0 :: suf, pre, n, v9, v3, h, hi, hn => by
    obtain ⟨k, rfl, hk⟩ := bump hn
    have ih := fun (q_v3 : List Row) => lp_i_FlattenRuns_0 fuel v7 hl suf (pre ++ [e0]) k (v9 + 1) q_v3 (at_step h) (at_idx hi) hk
    rw [st_i_FlattenRuns_0, cond_true' (at_mid h hi)]
    simp only [at_get h hi, at_arr h hi, at_chk h hi, cond_true, Option.bind_some, at_next' h hi hl, ih]
    rfl
theorem R_fi (fuel : Nat) (L : List (List Row)) : ∀ (l : List (List Row)) (i : Int) (acc : List Row), acc.length + l.flatten.length < 17179869184 → R_i_FlattenRuns_0 fuel L l i acc = some [(true, .sl .row (acc ++ l.flatten))]
  | [], i, acc, _ => by simp [R_i_FlattenRuns_0]
  | e :: l, i, acc, h => by
    simp only [List.flatten_cons, List.length_append] at h
    rw [R_i_FlattenRuns_0, cond_true' (lil_lim (by omega)), R_fi fuel L l _ _ (by simp only [List.length_append]; omega)]
    simp
theorem run_i_FlattenRuns (p0 : List (List Row)) (h : lilRuns p0 = true) : runF (E_i_FlattenRuns BIG) Try.f77 [.sl .run p0] = some [(true, .sl .row p0.flatten)] := by
  obtain ⟨hs, h2⟩ := lilRuns_iff.1 h
  rw [top_i_FlattenRuns, lp_i_FlattenRuns_0 BIG p0 (lil_small hs) p0 [] BIG 0 [] rfl rfl (lil_big hs), R_fi BIG p0 p0 0 [] (by simpa using h2)]
  rfl
def F_i_FlattenRuns : Ai.Fn := ⟨[(false, [.sl .run])], [(false, 1)], false, fun ds => match ds with | [.sl .run p0] => lilRuns p0 | _ => false, fun ds => match ds with | [.sl .run p0] => some [(true, .sl .row (p0.flatten))] | _ => none⟩
theorem fg_i_FlattenRuns : Try.prog.funcs[77]? = some Try.f77 := by kernel_rfl
theorem c_i_FlattenRuns : Ctr Try.prog 77 F_i_FlattenRuns := by
  refine ctr_of_run (code := Try.f77.body.getD .skip) mixed fg_i_FlattenRuns (by kernel_rfl) (Nat.le_of_ble_eq_true (by kernel_rfl)) (Nat.le_of_ble_eq_true (by kernel_rfl)) fun ds out hd hr => ?_
  dsimp only [F_i_FlattenRuns] at hd hr
  split at hd
  · simp only [Option.some.injEq] at hr
    subst hr
    exact ⟨E_i_FlattenRuns BIG, tys_ok tysB_ok, FnsL.nil, rfl, by kernel_rfl, by kernel_rfl, run_i_FlattenRuns _ hd⟩
  · cases hd
def E_i_together (fuel : Nat) : Env := ⟨tys, [], [(0, ([(3, .a .row 18), (7, .p), (8, .p), (9, .p)], 19))], fuel, 18, 0⟩
noncomputable def X_i_together_0 (fuel : Nat) (n : Nat)  (v3 : List Row) (v7 : List (List Row)) (v8 : Int) (v9 : Int) : Res := loopF (E_i_together fuel) Try.f80 [1, 1, 0, 1] [] n ⟨upds (fun _ => cU) [(3, .av (.one (.ls 18 0 none))), (18, .arr .row true v3), (7, .av (.one (.d (.sl .run v7)))), (8, .av (.one (.d (.i .i64 v8)))), (9, .av (.one (.d (.i .i64 v9))))], 19⟩
theorem top_i_together (fuel : Nat) (p0 : List (List Row)) : runF (E_i_together fuel) Try.f80 [.sl .run p0] =
 X_i_together_0 fuel fuel ([] : List Row) p0 (p0.length : Int) 0 := by kernel_rfl
theorem st_i_together_0 (fuel : Nat) (n : Nat)  (v3 : List Row) (v7 : List (List Row)) (v8 : Int) (v9 : Int) : X_i_together_0 fuel (n + 1) v3 v7 v8 v9 =
 cond (decide (v9 < v8))
 (Option.bind (geti v7 v9) fun e1 => cond (lim (v3.length + e1.length)) (X_i_together_0 fuel n (v3 ++ e1) v7 v8 (IntKind.i64.wrap (v9 + 1))) none)
 (some [(true, .sl .row v3)]) := by kernel_rfl
noncomputable def R_i_together_0 (fuel : Nat) (v7 : List (List Row)) : List (List Row) → Int → List Row → Res
  | [], v9, v3 => some [(true, .sl .row v3)]
  | e0 :: r, v9, v3 => cond (lim (v3.length + e0.length)) (R_i_together_0 fuel v7 r (v9 + 1) (v3 ++ e0)) none
theorem lp_i_together_0 (fuel : Nat) (v7 : List (List Row)) (hl : v7.length < 1099511627776) : ∀ (suf pre : List (List Row)) (n : Nat) (v9 : Int) (v3 : List Row), v7 = pre ++ suf → v9 = pre.length → suf.length < n → X_i_together_0 fuel n v3 v7 (v7.length : Int) v9 = R_i_together_0 fuel v7 suf v9 v3
  | [], pre, n, v9, v3, h, hi, hn => by
    obtain ⟨k, rfl, -⟩ := bump hn
    rw [st_i_together_0, cond_false' (at_end h hi)]
    rfl
  | e0 :: suf, pre, n, v9, v3, h, hi, hn => by
    obtain ⟨k, rfl, hk⟩ := bump hn
    have ih := fun (q_v3 : List Row) => lp_i_together_0 fuel v7 hl suf (pre ++ [e0]) k (v9 + 1) q_v3 (at_step h) (at_idx hi) hk
    rw [st_i_together_0, cond_true' (at_mid h hi)]
    simp only [at_get h hi, at_arr h hi, at_chk h hi, cond_true, Option.bind_some, at_next' h hi hl, ih]
    rfl
theorem R_tg (fuel : Nat) (L : List (List Row)) : ∀ (l : List (List Row)) (i : Int) (acc : List Row), acc.length + l.flatten.length < 17179869184 → R_i_together_0 fuel L l i acc = some [(true, .sl .row (acc ++ l.flatten))]
  | [], i, acc, _ => by simp [R_i_together_0]
  | e :: l, i, acc, h => by
    simp only [List.flatten_cons, List.length_append] at h
    rw [R_i_together_0, cond_true' (lil_lim (by omega)), R_tg fuel L l _ _ (by simp only [List.length_append]; omega)]
    simp
theorem run_i_together (p0 : List (List Row)) (h : lilRuns p0 = true) : runF (E_i_together BIG) Try.f80 [.sl .run p0] = some [(true, .sl .row p0.flatten)] := by
  obtain ⟨hs, h2⟩ := lilRuns_iff.1 h
  rw [top_i_together, lp_i_together_0 BIG p0 (lil_small hs) p0 [] BIG 0 [] rfl rfl (lil_big hs), R_tg BIG p0 p0 0 [] (by simpa using h2)]
  rfl
def F_i_together : Ai.Fn := ⟨[(false, [.sl .run])], [(false, 1)], false, fun ds => match ds with | [.sl .run p0] => lilRuns p0 | _ => false, fun ds => match ds with | [.sl .run p0] => some [(true, .sl .row (p0.flatten))] | _ => none⟩
theorem fg_i_together : Try.prog.funcs[80]? = some Try.f80 := by kernel_rfl
theorem c_i_together : Ctr Try.prog 80 F_i_together := by
  refine ctr_of_run (code := Try.f80.body.getD .skip) mixed fg_i_together (by kernel_rfl) (Nat.le_of_ble_eq_true (by kernel_rfl)) (Nat.le_of_ble_eq_true (by kernel_rfl)) fun ds out hd hr => ?_
  dsimp only [F_i_together] at hd hr
  split at hd
  · simp only [Option.some.injEq] at hr
    subst hr
    exact ⟨E_i_together BIG, tys_ok tysB_ok, FnsL.nil, rfl, by kernel_rfl, by kernel_rfl, run_i_together _ hd⟩
  · cases hd
end Go.Proofs.Ytfjdfbdiichhdaa
