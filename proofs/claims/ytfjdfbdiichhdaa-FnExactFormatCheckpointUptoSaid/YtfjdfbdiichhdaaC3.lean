/-
  The formats of rows and runs. Conditions: at most 2^20 rows, or runs.
-/
import Derived.Test.YtfjdfbdiichhdaaB2
import Derived.Test.YtfjdfbdiichhdaaC2
namespace Go.Proofs.Ytfjdfbdiichhdaa
open Go Ai
set_option maxRecDepth 100000
def fR (r : Row) : Str := if vRow r then (((fI r.k ++ [46]) ++ fI r.v) ++ [46]) ++ fI r.w else []
theorem idom_of {n : Int} {a : Int} (h : 0 ≤ n ∧ n ≤ a) (ha : a ≤ 1000) : idom n = true := idom_iff.2 (by omega)
theorem fR_len (r : Row) : (fR r).length ≤ 65 := by
  unfold fR
  split
  · rename_i h
    obtain ⟨h1, h2, h3⟩ := vRow_iff.1 h
    have l1 := fI_len (idom_of h1 (by omega))
    have l2 := fI_len (idom_of h2 (by omega))
    have l3 := fI_len (idom_of h3 (by omega))
    simp only [List.length_append, List.length_cons, List.length_nil]
    omega
  · simp
def E_s_FormatRow (fuel : Nat) : Env := ⟨tys, [(70, callFn F_s_IsValidRow), (102, callFn F_s_FormatInt)], [], fuel, 19, 0⟩
theorem top_s_FormatRow (fuel : Nat) (p0_0 : Int) (p0_1 : Int) (p0_2 : Int) : runF (E_s_FormatRow fuel) Try.f104 [.i .i64 p0_0, .i .i64 p0_1, .i .i64 p0_2] =
 cond (!(vRow ⟨p0_0, p0_1, p0_2⟩))
 (some [(true, .s [])])
 (cond (idom p0_0) (cond (lim ((fI p0_0).length + [46].length)) (cond (idom p0_1) (cond (lim (((fI p0_0) ++ [46]).length + (fI p0_1).length)) (cond (lim ((((fI p0_0) ++ [46]) ++ (fI p0_1)).length + [46].length)) (cond (idom p0_2) (cond (lim (((((fI p0_0) ++ [46]) ++ (fI p0_1)) ++ [46]).length + (fI p0_2).length)) (some [(true, .s (((((fI p0_0) ++ [46]) ++ (fI p0_1)) ++ [46]) ++ (fI p0_2)))]) none) none) none) none) none) none) none) := by kernel_rfl
theorem run_s_FormatRow (a b c : Int) (_ : true = true) : runF (E_s_FormatRow BIG) Try.f104 [.i .i64 a, .i .i64 b, .i .i64 c] = some [(true, .s (fR ⟨a, b, c⟩))] := by
  rw [top_s_FormatRow]
  cases h : vRow ⟨a, b, c⟩
  · simp only [Bool.not_false, cond_true]
    refine someS ?_
    simp [fR, h]
  · obtain ⟨h1, h2, h3⟩ : (0 ≤ a ∧ a ≤ 9) ∧ (0 ≤ b ∧ b ≤ 99) ∧ (0 ≤ c ∧ c ≤ 3) := vRow_iff.1 h
    have l1 := fI_len (idom_of h1 (by omega))
    have l2 := fI_len (idom_of h2 (by omega))
    have l3 := fI_len (idom_of h3 (by omega))
    simp only [Bool.not_true, cond_false, idom_of h1 (by omega), idom_of h2 (by omega), idom_of h3 (by omega), cond_true]
    rw [cond_true' (lim_ok _), cond_true' (lim_ok _), cond_true' (lim_ok _), cond_true' (lim_ok _)]
    · refine someS ?_
      simp [fR, h]
    all_goals simp only [List.length_append, List.length_cons, List.length_nil]; omega
def F_s_FormatRow : Ai.Fn := ⟨[(true, [.sc, .sc, .sc])], [(false, 1)], false, fun ds => match ds with | [.i .i64 p0_0, .i .i64 p0_1, .i .i64 p0_2] => true | _ => false, fun ds => match ds with | [.i .i64 p0_0, .i .i64 p0_1, .i .i64 p0_2] => some [(true, .s (fR ⟨p0_0, p0_1, p0_2⟩))] | _ => none⟩
theorem fg_s_FormatRow : Try.prog.funcs[104]? = some Try.f104 := by kernel_rfl
theorem c_s_FormatRow : Ctr Try.prog 104 F_s_FormatRow := by
  refine ctr_of_run (code := Try.f104.body.getD .skip) mixed fg_s_FormatRow (by kernel_rfl) (Nat.le_of_ble_eq_true (by kernel_rfl)) (Nat.le_of_ble_eq_true (by kernel_rfl)) fun ds out hd hr => ?_
  dsimp only [F_s_FormatRow] at hd hr
  split at hd
  · simp only [Option.some.injEq] at hr
    subst hr
    exact ⟨E_s_FormatRow BIG, tys_ok tysB_ok, FnsL.cons (fn_ok c_s_IsValidRow) fg_s_IsValidRow rfl rfl (FnsL.cons (fn_ok c_s_FormatInt) fg_s_FormatInt rfl rfl (FnsL.nil)), rfl, by kernel_rfl, by kernel_rfl, run_s_FormatRow _ _ _ hd⟩
  · cases hd
def E_i_FormatRow (fuel : Nat) : Env := ⟨tys, [(106, callFn F_i_FormatInt), (122, callFn F_i_IsValidRow)], [], fuel, 19, 0⟩
theorem top_i_FormatRow (fuel : Nat) (p0_0 : Int) (p0_1 : Int) (p0_2 : Int) : runF (E_i_FormatRow fuel) Try.f132 [.i .i64 p0_0, .i .i64 p0_1, .i .i64 p0_2] =
 cond (!(r_i_IsValidRow_0 p0_0 p0_1 p0_2))
 (some [(true, .s [])])
 (cond (idom p0_0) (cond (lim ((fI p0_0).length + [46].length)) (cond (idom p0_1) (cond (lim (((fI p0_0) ++ [46]).length + (fI p0_1).length)) (cond (lim ((((fI p0_0) ++ [46]) ++ (fI p0_1)).length + [46].length)) (cond (idom p0_2) (cond (lim (((((fI p0_0) ++ [46]) ++ (fI p0_1)) ++ [46]).length + (fI p0_2).length)) (some [(true, .s (((((fI p0_0) ++ [46]) ++ (fI p0_1)) ++ [46]) ++ (fI p0_2)))]) none) none) none) none) none) none) none) := by kernel_rfl
theorem run_i_FormatRow (a b c : Int) (_ : true = true) : runF (E_i_FormatRow BIG) Try.f132 [.i .i64 a, .i .i64 b, .i .i64 c] = some [(true, .s (fR ⟨a, b, c⟩))] := by
  rw [top_i_FormatRow, ivr_eq]
  cases h : vRow ⟨a, b, c⟩
  · simp only [Bool.not_false, cond_true]
    refine someS ?_
    simp [fR, h]
  · obtain ⟨h1, h2, h3⟩ : (0 ≤ a ∧ a ≤ 9) ∧ (0 ≤ b ∧ b ≤ 99) ∧ (0 ≤ c ∧ c ≤ 3) := vRow_iff.1 h
    have l1 := fI_len (idom_of h1 (by omega))
    have l2 := fI_len (idom_of h2 (by omega))
    have l3 := fI_len (idom_of h3 (by omega))
    simp only [Bool.not_true, cond_false, idom_of h1 (by omega), idom_of h2 (by omega), idom_of h3 (by omega), cond_true]
    rw [cond_true' (lim_ok _), cond_true' (lim_ok _), cond_true' (lim_ok _), cond_true' (lim_ok _)]
    · refine someS ?_
      simp [fR, h]
    all_goals simp only [List.length_append, List.length_cons, List.length_nil]; omega
def F_i_FormatRow : Ai.Fn := ⟨[(true, [.sc, .sc, .sc])], [(false, 1)], false, fun ds => match ds with | [.i .i64 p0_0, .i .i64 p0_1, .i .i64 p0_2] => true | _ => false, fun ds => match ds with | [.i .i64 p0_0, .i .i64 p0_1, .i .i64 p0_2] => some [(true, .s (fR ⟨p0_0, p0_1, p0_2⟩))] | _ => none⟩
theorem fg_i_FormatRow : Try.prog.funcs[132]? = some Try.f132 := by kernel_rfl
theorem c_i_FormatRow : Ctr Try.prog 132 F_i_FormatRow := by
  refine ctr_of_run (code := Try.f132.body.getD .skip) mixed fg_i_FormatRow (by kernel_rfl) (Nat.le_of_ble_eq_true (by kernel_rfl)) (Nat.le_of_ble_eq_true (by kernel_rfl)) fun ds out hd hr => ?_
  dsimp only [F_i_FormatRow] at hd hr
  split at hd
  · simp only [Option.some.injEq] at hr
    subst hr
    exact ⟨E_i_FormatRow BIG, tys_ok tysB_ok, FnsL.cons (fn_ok c_i_FormatInt) fg_i_FormatInt rfl rfl (FnsL.cons (fn_ok c_i_IsValidRow) fg_i_IsValidRow rfl rfl (FnsL.nil)), rfl, by kernel_rfl, by kernel_rfl, run_i_FormatRow _ _ _ hd⟩
  · cases hd

/- Texts joined by a sign. -/
def jl (sep : Str) : Str → List Str → Str
  | out, [] => out
  | out, s :: l => jl sep ((out ++ sep) ++ s) l
def jn (sep : Str) : List Str → Str
  | [] => []
  | s :: l => jl sep s l
def jsz (sep : Str) (l : List Str) : Nat := (l.map fun s => s.length + sep.length).sum
theorem jl_len (sep : Str) : ∀ (l : List Str) (out : Str), (jl sep out l).length = out.length + jsz sep l
  | [], out => by simp [jl, jsz]
  | s :: l, out => by
    have := jl_len sep l ((out ++ sep) ++ s)
    simp only [jl, jsz, List.map_cons, List.sum_cons, List.length_append] at this ⊢
    omega
theorem jn_len (sep : Str) : ∀ (l : List Str), (jn sep l).length ≤ jsz sep l
  | [] => by simp [jn]
  | s :: l => by
    have := jl_len sep l s
    simp only [jn, jsz, List.map_cons, List.sum_cons] at this ⊢
    omega
theorem jsz_le {α : Type} (sep : Str) (f : α → Str) (m : Nat) : ∀ (l : List α), (∀ x ∈ l, (f x).length + sep.length ≤ m) → jsz sep (l.map f) ≤ l.length * m
  | [], _ => by simp [jsz]
  | x :: l, h => by
    have h1 := h x (by simp)
    have h2 := jsz_le sep f m l fun y hy => h y (by simp [hy])
    simp only [jsz, List.map_cons, List.sum_cons, List.length_cons, Nat.add_mul] at h2 ⊢
    omega
def mid (n : Nat) : Bool := decide (n ≤ 1048576)
theorem mid_iff {n : Nat} : mid n = true ↔ n ≤ 1048576 := by simp [mid]
def fRs (l : List Row) : Str := if vRows l then jn [32] (l.map fR) else []
theorem fRs_len (l : List Row) : (fRs l).length ≤ 1584 := by
  unfold fRs
  split
  · rename_i h
    have h24 : l.length ≤ 24 := by simp only [vRows, Bool.and_eq_true, decide_eq_true_eq] at h; exact h.2
    have h1 := jn_len [32] (l.map fR)
    have h2 := jsz_le [32] fR 66 l fun r _ => by have := fR_len r; simp; omega
    omega
  · simp
def fRuns (l : List (List Row)) : Str := jn [124] (l.map fRs)
theorem fRuns_len (l : List (List Row)) : (fRuns l).length ≤ l.length * 1585 :=
  Nat.le_trans (jn_len _ _) (jsz_le [124] fRs 1585 l fun r _ => by have := fRs_len r; simp; omega)

def E_i_joined (fuel : Nat) : Env := ⟨tys, [], [(0, ([(1, .p), (5, .p), (8, .p), (9, .p), (10, .p)], 25))], fuel, 25, 0⟩
noncomputable def X_i_joined_0 (fuel : Nat) (n : Nat)  (v1 : Str) (v5 : Str) (v8 : List Str) (v9 : Int) (v10 : Int) : Res := loopF (E_i_joined fuel) Try.f105 [1, 1, 0, 1] [] n ⟨upds (fun _ => cU) [(1, .av (.one (.d (.s v1)))), (5, .av (.one (.d (.s v5)))), (8, .av (.one (.d (.sl .str v8)))), (9, .av (.one (.d (.i .i64 v9)))), (10, .av (.one (.d (.i .i64 v10))))], 25⟩
theorem top_i_joined (fuel : Nat) (p0 : List Str) (p1 : Str) : runF (E_i_joined fuel) Try.f105 [.sl .str p0, .s p1] =
 X_i_joined_0 fuel fuel p1 [] p0 (p0.length : Int) 0 := by kernel_rfl
theorem st_i_joined_0 (fuel : Nat) (n : Nat)  (v1 : Str) (v5 : Str) (v8 : List Str) (v9 : Int) (v10 : Int) : X_i_joined_0 fuel (n + 1) v1 v5 v8 v9 v10 =
 cond (decide (v10 < v9))
 (Option.bind (geti v8 v10) fun e1 => cond (decide (v10 > 0))
 (cond (lim (v5.length + v1.length)) (cond (lim ((v5 ++ v1).length + e1.length)) (X_i_joined_0 fuel n v1 ((v5 ++ v1) ++ e1) v8 v9 (IntKind.i64.wrap (v10 + 1))) none) none)
 (cond (lim (v5.length + e1.length)) (X_i_joined_0 fuel n v1 (v5 ++ e1) v8 v9 (IntKind.i64.wrap (v10 + 1))) none))
 (some [(true, .s v5)]) := by kernel_rfl
noncomputable def R_i_joined_0 (fuel : Nat) (v8 : List Str) : List Str → Int → Str → Str → Res
  | [], v10, v1, v5 => some [(true, .s v5)]
  | e0 :: r, v10, v1, v5 => cond (decide (v10 > 0))
       (cond (lim (v5.length + v1.length)) (cond (lim ((v5 ++ v1).length + e0.length)) (R_i_joined_0 fuel v8 r (v10 + 1) v1 ((v5 ++ v1) ++ e0)) none) none)
       (cond (lim (v5.length + e0.length)) (R_i_joined_0 fuel v8 r (v10 + 1) v1 (v5 ++ e0)) none)
theorem lp_i_joined_0 (fuel : Nat) (v8 : List Str) (hl : v8.length < 1099511627776) : ∀ (suf pre : List Str) (n : Nat) (v10 : Int) (v1 : Str) (v5 : Str), v8 = pre ++ suf → v10 = pre.length → suf.length < n → X_i_joined_0 fuel n v1 v5 v8 (v8.length : Int) v10 = R_i_joined_0 fuel v8 suf v10 v1 v5
  | [], pre, n, v10, v1, v5, h, hi, hn => by
    obtain ⟨k, rfl, -⟩ := bump hn
    rw [st_i_joined_0, cond_false' (at_end h hi)]
    rfl
  | e0 :: suf, pre, n, v10, v1, v5, h, hi, hn => by
    obtain ⟨k, rfl, hk⟩ := bump hn
    have ih := fun (q_v1 : Str) (q_v5 : Str) => lp_i_joined_0 fuel v8 hl suf (pre ++ [e0]) k (v10 + 1) q_v1 q_v5 (at_step h) (at_idx hi) hk
    rw [st_i_joined_0, cond_true' (at_mid h hi)]
    simp only [at_get h hi, at_arr h hi, at_chk h hi, cond_true, Option.bind_some, at_next' h hi hl, ih]
    rfl
theorem R_jo (fuel : Nat) (L : List Str) (sep : Str) : ∀ (l : List Str) (i : Int) (out : Str), 0 < i → out.length + jsz sep l < 17179869184 → R_i_joined_0 fuel L l i sep out = some [(true, .s (jl sep out l))]
  | [], i, out, _, _ => rfl
  | e :: l, i, out, hi, h => by
    simp only [jsz, List.map_cons, List.sum_cons] at h
    rw [R_i_joined_0, cond_true' (decide_eq_true hi), cond_true' (lim_ok (by omega)), cond_true' (lim_ok (by rw [List.length_append]; omega)), R_jo fuel L sep l _ _ (by omega) (by simp only [List.length_append, jsz]; omega)]
    rfl
theorem run_i_joined (p0 : List Str) (p1 : Str) (h : (lil p0.length && lil (jsz p1 p0)) = true) : runF (E_i_joined BIG) Try.f105 [.sl .str p0, .s p1] = some [(true, .s (jn p1 p0))] := by
  obtain ⟨h1, h2⟩ := (Bool.and_eq_true _ _).mp h
  have h1 := lil_iff.1 h1
  have h2 := lil_iff.1 h2
  rw [top_i_joined, lp_i_joined_0 BIG p0 (lil_small h1) p0 [] BIG 0 p1 [] rfl rfl (lil_big h1)]
  cases p0 with
  | nil => rfl
  | cons e l =>
    simp only [jsz, List.map_cons, List.sum_cons] at h2
    rw [R_i_joined_0, cond_false' (by simp), cond_true' (lim_ok (by simp; omega)), R_jo _ _ _ _ _ _ (by omega) (by simp only [List.nil_append, jsz]; omega)]
    rfl
def F_i_joined : Ai.Fn := ⟨[(false, [.sl .str]), (false, [.sc])], [(false, 1)], false, fun ds => match ds with | [.sl .str p0, .s p1] => lil p0.length && lil (jsz p1 p0) | _ => false, fun ds => match ds with | [.sl .str p0, .s p1] => some [(true, .s (jn p1 p0))] | _ => none⟩
theorem fg_i_joined : Try.prog.funcs[105]? = some Try.f105 := by kernel_rfl
theorem c_i_joined : Ctr Try.prog 105 F_i_joined := by
  refine ctr_of_run (code := Try.f105.body.getD .skip) mixed fg_i_joined (by kernel_rfl) (Nat.le_of_ble_eq_true (by kernel_rfl)) (Nat.le_of_ble_eq_true (by kernel_rfl)) fun ds out hd hr => ?_
  dsimp only [F_i_joined] at hd hr
  split at hd
  · simp only [Option.some.injEq] at hr
    subst hr
    exact ⟨E_i_joined BIG, tys_ok tysB_ok, FnsL.nil, rfl, by kernel_rfl, by kernel_rfl, run_i_joined _ _ hd⟩
  · cases hd

def E_s_FormatRows (fuel : Nat) : Env := ⟨tys, [(26, callFn F_s_AreValidRows), (104, callFn F_s_FormatRow)], [(0, ([(0, .p), (3, .p), (4, .p)], 27))], fuel, 27, 0⟩
noncomputable def X_s_FormatRows_0 (fuel : Nat) (n : Nat)  (v0 : List Row) (v3 : Str) (v4 : Int) : Res := loopF (E_s_FormatRows fuel) Try.f48 [1, 1, 0, 1] [] n ⟨upds (fun _ => cU) [(0, .av (.one (.d (.sl .row v0)))), (3, .av (.one (.d (.s v3)))), (4, .av (.one (.d (.i .i64 v4))))], 27⟩
theorem top_s_FormatRows (fuel : Nat) (p0 : List Row) : runF (E_s_FormatRows fuel) Try.f48 [.sl .row p0] =
 X_s_FormatRows_0 fuel fuel p0 [] 0 := by kernel_rfl
theorem st_s_FormatRows_0 (fuel : Nat) (n : Nat)  (v0 : List Row) (v3 : Str) (v4 : Int) : X_s_FormatRows_0 fuel (n + 1) v0 v3 v4 =
 cond (decide (v4 < (v0.length : Int)))
 (cond (lil v0.length) (cond (vRows v0)
 (cond (decide (v4 > 0))
 (cond (lim (v3.length + [32].length)) (Option.bind (geti v0 v4) fun e1 => cond (lim ((v3 ++ [32]).length + (fR e1).length)) (X_s_FormatRows_0 fuel n v0 ((v3 ++ [32]) ++ (fR e1)) (IntKind.i64.wrap (v4 + 1))) none) none)
 (Option.bind (geti v0 v4) fun e2 => cond (lim (v3.length + (fR e2).length)) (X_s_FormatRows_0 fuel n v0 (v3 ++ (fR e2)) (IntKind.i64.wrap (v4 + 1))) none))
 (some [(true, .s v3)])) none)
 (some [(true, .s v3)]) := by kernel_rfl
noncomputable def R_s_FormatRows_0 (fuel : Nat) (v0 : List Row) : List Row → Int → Str → Res
  | [], v4, v3 => some [(true, .s v3)]
  | e0 :: r, v4, v3 => cond (lil v0.length) (cond (vRows v0)
       (cond (decide (v4 > 0))
       (cond (lim (v3.length + [32].length)) (cond (lim ((v3 ++ [32]).length + (fR e0).length)) (R_s_FormatRows_0 fuel v0 r (v4 + 1) ((v3 ++ [32]) ++ (fR e0))) none) none)
       (cond (lim (v3.length + (fR e0).length)) (R_s_FormatRows_0 fuel v0 r (v4 + 1) (v3 ++ (fR e0))) none))
       (some [(true, .s v3)])) none
theorem lp_s_FormatRows_0 (fuel : Nat) (v0 : List Row) (hl : v0.length < 1099511627776) : ∀ (suf pre : List Row) (n : Nat) (v4 : Int) (v3 : Str), v0 = pre ++ suf → v4 = pre.length → suf.length < n → X_s_FormatRows_0 fuel n v0 v3 v4 = R_s_FormatRows_0 fuel v0 suf v4 v3
  | [], pre, n, v4, v3, h, hi, hn => by
    obtain ⟨k, rfl, -⟩ := bump hn
    rw [st_s_FormatRows_0, cond_false' (at_end h hi)]
    rfl
  | e0 :: suf, pre, n, v4, v3, h, hi, hn => by
    obtain ⟨k, rfl, hk⟩ := bump hn
    have ih := fun (q_v3 : Str) => lp_s_FormatRows_0 fuel v0 hl suf (pre ++ [e0]) k (v4 + 1) q_v3 (at_step h) (at_idx hi) hk
    rw [st_s_FormatRows_0, cond_true' (at_mid h hi)]
    simp only [at_get h hi, at_arr h hi, at_chk h hi, cond_true, Option.bind_some, at_next' h hi hl, ih]
    rfl
theorem R_fr (fuel : Nat) (L : List Row) (hL : vRows L = true) (hl : lil L.length = true) : ∀ (l : List Row) (i : Int) (out : Str), 0 < i → out.length + l.length * 66 < 17179869184 → R_s_FormatRows_0 fuel L l i out = some [(true, .s (jl [32] out (l.map fR)))]
  | [], i, out, _, _ => rfl
  | e :: l, i, out, hi, h => by
    have l1 := fR_len e
    simp only [List.length_cons] at h
    rw [R_s_FormatRows_0, cond_true' hl, cond_true' hL, cond_true' (decide_eq_true hi), cond_true' (lim_ok (by simp; omega)), cond_true' (lim_ok (by simp; omega)), R_fr fuel L hL hl l _ _ (by omega) (by simp; omega)]
    rfl
theorem run_s_FormatRows (p0 : List Row) (hl : lil p0.length = true) : runF (E_s_FormatRows BIG) Try.f48 [.sl .row p0] = some [(true, .s (fRs p0))] := by
  have h1 := lil_iff.1 hl
  rw [top_s_FormatRows, lp_s_FormatRows_0 BIG p0 (lil_small h1) p0 [] BIG 0 [] rfl rfl (lil_big h1)]
  cases hv : vRows p0 with
  | false =>
    unfold fRs
    rw [hv]
    cases p0 with
    | nil => rfl
    | cons e l => rw [R_s_FormatRows_0, cond_true' hl, cond_false' hv]; rfl
  | true =>
    have h24 : p0.length ≤ 24 := by simp only [vRows, Bool.and_eq_true, decide_eq_true_eq] at hv; exact hv.2
    unfold fRs
    rw [hv, if_pos rfl]
    cases p0 with
    | nil => rfl
    | cons e l =>
      have l1 := fR_len e
      simp only [List.length_cons] at h24
      rw [R_s_FormatRows_0, cond_true' hl, cond_true' hv, cond_false' (by simp), cond_true' (lim_ok (by simp; omega)), R_fr _ _ hv hl _ _ _ (by omega) (by simp; omega)]
      rfl
def F_s_FormatRows : Ai.Fn := ⟨[(false, [.sl .row])], [(false, 1)], false, fun ds => match ds with | [.sl .row p0] => lil p0.length | _ => false, fun ds => match ds with | [.sl .row p0] => some [(true, .s (fRs p0))] | _ => none⟩
theorem fg_s_FormatRows : Try.prog.funcs[48]? = some Try.f48 := by kernel_rfl
theorem c_s_FormatRows : Ctr Try.prog 48 F_s_FormatRows := by
  refine ctr_of_run (code := Try.f48.body.getD .skip) mixed fg_s_FormatRows (by kernel_rfl) (Nat.le_of_ble_eq_true (by kernel_rfl)) (Nat.le_of_ble_eq_true (by kernel_rfl)) fun ds out hd hr => ?_
  dsimp only [F_s_FormatRows] at hd hr
  split at hd
  · simp only [Option.some.injEq] at hr
    subst hr
    exact ⟨E_s_FormatRows BIG, tys_ok tysB_ok, FnsL.cons (fn_ok c_s_AreValidRows) fg_s_AreValidRows rfl rfl (FnsL.cons (fn_ok c_s_FormatRow) fg_s_FormatRow rfl rfl (FnsL.nil)), rfl, by kernel_rfl, by kernel_rfl, run_s_FormatRows _ hd⟩
  · cases hd
def E_s_FormatRuns (fuel : Nat) : Env := ⟨tys, [(48, callFn F_s_FormatRows)], [(0, ([(0, .p), (3, .p), (4, .p)], 24))], fuel, 24, 0⟩
noncomputable def X_s_FormatRuns_0 (fuel : Nat) (n : Nat)  (v0 : List (List Row)) (v3 : Str) (v4 : Int) : Res := loopF (E_s_FormatRuns fuel) Try.f103 [1, 1, 0, 1] [] n ⟨upds (fun _ => cU) [(0, .av (.one (.d (.sl .run v0)))), (3, .av (.one (.d (.s v3)))), (4, .av (.one (.d (.i .i64 v4))))], 24⟩
theorem top_s_FormatRuns (fuel : Nat) (p0 : List (List Row)) : runF (E_s_FormatRuns fuel) Try.f103 [.sl .run p0] =
 X_s_FormatRuns_0 fuel fuel p0 [] 0 := by kernel_rfl
theorem st_s_FormatRuns_0 (fuel : Nat) (n : Nat)  (v0 : List (List Row)) (v3 : Str) (v4 : Int) : X_s_FormatRuns_0 fuel (n + 1) v0 v3 v4 =
 cond (decide (v4 < (v0.length : Int)))
 (cond (decide (v4 > 0))
 (cond (lim (v3.length + [124].length)) (Option.bind (geti v0 v4) fun e1 => cond (lil e1.length) (cond (lim ((v3 ++ [124]).length + (fRs e1).length)) (X_s_FormatRuns_0 fuel n v0 ((v3 ++ [124]) ++ (fRs e1)) (IntKind.i64.wrap (v4 + 1))) none) none) none)
 (Option.bind (geti v0 v4) fun e2 => cond (lil e2.length) (cond (lim (v3.length + (fRs e2).length)) (X_s_FormatRuns_0 fuel n v0 (v3 ++ (fRs e2)) (IntKind.i64.wrap (v4 + 1))) none) none))
 (some [(true, .s v3)]) := by kernel_rfl
noncomputable def R_s_FormatRuns_0 (fuel : Nat) (v0 : List (List Row)) : List (List Row) → Int → Str → Res
  | [], v4, v3 => some [(true, .s v3)]
  | e0 :: r, v4, v3 => cond (decide (v4 > 0))
       (cond (lim (v3.length + [124].length)) (cond (lil e0.length) (cond (lim ((v3 ++ [124]).length + (fRs e0).length)) (R_s_FormatRuns_0 fuel v0 r (v4 + 1) ((v3 ++ [124]) ++ (fRs e0))) none) none) none)
       (cond (lil e0.length) (cond (lim (v3.length + (fRs e0).length)) (R_s_FormatRuns_0 fuel v0 r (v4 + 1) (v3 ++ (fRs e0))) none) none)
theorem lp_s_FormatRuns_0 (fuel : Nat) (v0 : List (List Row)) (hl : v0.length < 1099511627776) : ∀ (suf pre : List (List Row)) (n : Nat) (v4 : Int) (v3 : Str), v0 = pre ++ suf → v4 = pre.length → suf.length < n → X_s_FormatRuns_0 fuel n v0 v3 v4 = R_s_FormatRuns_0 fuel v0 suf v4 v3
  | [], pre, n, v4, v3, h, hi, hn => by
    obtain ⟨k, rfl, -⟩ := bump hn
    rw [st_s_FormatRuns_0, cond_false' (at_end h hi)]
    rfl
  | e0 :: suf, pre, n, v4, v3, h, hi, hn => by
    obtain ⟨k, rfl, hk⟩ := bump hn
    have ih := fun (q_v3 : Str) => lp_s_FormatRuns_0 fuel v0 hl suf (pre ++ [e0]) k (v4 + 1) q_v3 (at_step h) (at_idx hi) hk
    rw [st_s_FormatRuns_0, cond_true' (at_mid h hi)]
    simp only [at_get h hi, at_arr h hi, at_chk h hi, cond_true, Option.bind_some, at_next' h hi hl, ih]
    rfl
theorem R_fu (fuel : Nat) (L : List (List Row)) : ∀ (l : List (List Row)) (i : Int) (out : Str), 0 < i → (∀ r ∈ l, lil r.length = true) → out.length + l.length * 1585 < 17179869184 → R_s_FormatRuns_0 fuel L l i out = some [(true, .s (jl [124] out (l.map fRs)))]
  | [], i, out, _, _, _ => rfl
  | e :: l, i, out, hi, hr, h => by
    have l1 := fRs_len e
    simp only [List.length_cons] at h
    rw [R_s_FormatRuns_0]
    simp only [hr e (by simp), cond_true]
    rw [cond_true' (decide_eq_true hi), cond_true' (lim_ok (by simp; omega)), cond_true' (lim_ok (by simp; omega)), R_fu fuel L l _ _ (by omega) (fun r h => hr r (by simp [h])) (by simp; omega)]
    rfl
theorem run_s_FormatRuns (p0 : List (List Row)) (h : (mid p0.length && lil p0.flatten.length) = true) : runF (E_s_FormatRuns BIG) Try.f103 [.sl .run p0] = some [(true, .s (fRuns p0))] := by
  obtain ⟨h1, h2⟩ := (Bool.and_eq_true _ _).mp h
  have h1 := mid_iff.1 h1
  have hr : ∀ r ∈ p0, lil r.length = true := fun r hr => lil_iff.2 (by have := flat_mem hr; have := lil_iff.1 h2; omega)
  rw [top_s_FormatRuns, lp_s_FormatRuns_0 BIG p0 (by omega) p0 [] BIG 0 [] rfl rfl (lil_big (by omega))]
  cases p0 with
  | nil => rfl
  | cons e l =>
    have l1 := fRs_len e
    simp only [List.length_cons] at h1
    rw [R_s_FormatRuns_0]
    simp only [hr e (by simp), cond_true]
    rw [cond_false' (by simp), cond_true' (lim_ok (by simp; omega)), R_fu _ _ _ _ _ (by omega) (fun r h => hr r (by simp [h])) (by simp; omega)]
    rfl
def F_s_FormatRuns : Ai.Fn := ⟨[(false, [.sl .run])], [(false, 1)], false, fun ds => match ds with | [.sl .run p0] => mid p0.length && lil p0.flatten.length | _ => false, fun ds => match ds with | [.sl .run p0] => some [(true, .s (fRuns p0))] | _ => none⟩
theorem fg_s_FormatRuns : Try.prog.funcs[103]? = some Try.f103 := by kernel_rfl
theorem c_s_FormatRuns : Ctr Try.prog 103 F_s_FormatRuns := by
  refine ctr_of_run (code := Try.f103.body.getD .skip) mixed fg_s_FormatRuns (by kernel_rfl) (Nat.le_of_ble_eq_true (by kernel_rfl)) (Nat.le_of_ble_eq_true (by kernel_rfl)) fun ds out hd hr => ?_
  dsimp only [F_s_FormatRuns] at hd hr
  split at hd
  · simp only [Option.some.injEq] at hr
    subst hr
    exact ⟨E_s_FormatRuns BIG, tys_ok tysB_ok, FnsL.cons (fn_ok c_s_FormatRows) fg_s_FormatRows rfl rfl (FnsL.nil), rfl, by kernel_rfl, by kernel_rfl, run_s_FormatRuns _ hd⟩
  · cases hd
def E_i_rowTexts (fuel : Nat) : Env := ⟨tys, [(105, callFn F_i_joined), (132, callFn F_i_FormatRow)], [(0, ([(3, .a .str 21), (7, .p), (8, .p), (9, .p)], 22))], fuel, 21, 0⟩
noncomputable def X_i_rowTexts_0 (fuel : Nat) (n : Nat)  (v3 : List Str) (v7 : List Row) (v8 : Int) (v9 : Int) : Res := loopF (E_i_rowTexts fuel) Try.f107 [1, 1, 0, 1] [] n ⟨upds (fun _ => cU) [(3, .av (.one (.ls 21 0 none))), (21, .arr .str true v3), (7, .av (.one (.d (.sl .row v7)))), (8, .av (.one (.d (.i .i64 v8)))), (9, .av (.one (.d (.i .i64 v9))))], 22⟩
theorem top_i_rowTexts (fuel : Nat) (p0 : List Row) : runF (E_i_rowTexts fuel) Try.f107 [.sl .row p0] =
 X_i_rowTexts_0 fuel fuel ([] : List Str) p0 (p0.length : Int) 0 := by kernel_rfl
theorem st_i_rowTexts_0 (fuel : Nat) (n : Nat)  (v3 : List Str) (v7 : List Row) (v8 : Int) (v9 : Int) : X_i_rowTexts_0 fuel (n + 1) v3 v7 v8 v9 =
 cond (decide (v9 < v8))
 (Option.bind (geti v7 v9) fun e1 => cond (lim (v3.length + ([fR e1] : List Str).length)) (X_i_rowTexts_0 fuel n (v3 ++ ([fR e1] : List Str)) v7 v8 (IntKind.i64.wrap (v9 + 1))) none)
 (cond (lil v3.length && lil (jsz [32] v3)) (some [(true, .s (jn [32] v3))]) none) := by kernel_rfl
noncomputable def R_i_rowTexts_0 (fuel : Nat) (v7 : List Row) : List Row → Int → List Str → Res
  | [], v9, v3 => cond (lil v3.length && lil (jsz [32] v3)) (some [(true, .s (jn [32] v3))]) none
  | e0 :: r, v9, v3 => cond (lim (v3.length + ([fR e0] : List Str).length)) (R_i_rowTexts_0 fuel v7 r (v9 + 1) (v3 ++ ([fR e0] : List Str))) none
theorem lp_i_rowTexts_0 (fuel : Nat) (v7 : List Row) (hl : v7.length < 1099511627776) : ∀ (suf pre : List Row) (n : Nat) (v9 : Int) (v3 : List Str), v7 = pre ++ suf → v9 = pre.length → suf.length < n → X_i_rowTexts_0 fuel n v3 v7 (v7.length : Int) v9 = R_i_rowTexts_0 fuel v7 suf v9 v3
  | [], pre, n, v9, v3, h, hi, hn => by
    obtain ⟨k, rfl, -⟩ := bump hn
    rw [st_i_rowTexts_0, cond_false' (at_end h hi)]
    rfl
  | e0 :: suf, pre, n, v9, v3, h, hi, hn => by
    obtain ⟨k, rfl, hk⟩ := bump hn
    have ih := fun (q_v3 : List Str) => lp_i_rowTexts_0 fuel v7 hl suf (pre ++ [e0]) k (v9 + 1) q_v3 (at_step h) (at_idx hi) hk
    rw [st_i_rowTexts_0, cond_true' (at_mid h hi)]
    simp only [at_get h hi, at_arr h hi, at_chk h hi, cond_true, Option.bind_some, at_next' h hi hl, ih]
    rfl
theorem R_rt (fuel : Nat) (L : List Row) : ∀ (l : List Row) (i : Int) (acc : List Str), acc.length + l.length ≤ 1048576 → R_i_rowTexts_0 fuel L l i acc = cond (lil (acc ++ l.map fR).length && lil (jsz [32] (acc ++ l.map fR))) (some [(true, .s (jn [32] (acc ++ l.map fR)))]) none
  | [], i, acc, _ => by rw [List.map_nil, List.append_nil]; rfl
  | e :: l, i, acc, h => by
    simp only [List.length_cons] at h
    rw [R_i_rowTexts_0, cond_true' (lim_ok (by simp; omega)), R_rt fuel L l _ _ (by simp; omega)]
    simp
theorem run_i_rowTexts (p0 : List Row) (h : mid p0.length = true) : runF (E_i_rowTexts BIG) Try.f107 [.sl .row p0] = some [(true, .s (jn [32] (p0.map fR)))] := by
  have h1 := mid_iff.1 h
  rw [top_i_rowTexts, lp_i_rowTexts_0 BIG p0 (by omega) p0 [] BIG 0 [] rfl rfl (lil_big (by omega)), R_rt _ _ _ _ _ (by simp; omega)]
  have h2 := jsz_le [32] fR 66 p0 fun r _ => by have := fR_len r; simp; omega
  rw [List.nil_append, cond_true']
  simp only [Bool.and_eq_true, lil_iff, List.length_map]
  omega
def F_i_rowTexts : Ai.Fn := ⟨[(false, [.sl .row])], [(false, 1)], false, fun ds => match ds with | [.sl .row p0] => mid p0.length | _ => false, fun ds => match ds with | [.sl .row p0] => some [(true, .s (jn [32] (p0.map fR)))] | _ => none⟩
theorem fg_i_rowTexts : Try.prog.funcs[107]? = some Try.f107 := by kernel_rfl
theorem c_i_rowTexts : Ctr Try.prog 107 F_i_rowTexts := by
  refine ctr_of_run (code := Try.f107.body.getD .skip) mixed fg_i_rowTexts (by kernel_rfl) (Nat.le_of_ble_eq_true (by kernel_rfl)) (Nat.le_of_ble_eq_true (by kernel_rfl)) fun ds out hd hr => ?_
  dsimp only [F_i_rowTexts] at hd hr
  split at hd
  · simp only [Option.some.injEq] at hr
    subst hr
    exact ⟨E_i_rowTexts BIG, tys_ok tysB_ok, FnsL.cons (fn_ok c_i_joined) fg_i_joined rfl rfl (FnsL.cons (fn_ok c_i_FormatRow) fg_i_FormatRow rfl rfl (FnsL.nil)), rfl, by kernel_rfl, by kernel_rfl, run_i_rowTexts _ hd⟩
  · cases hd
def E_i_FormatRows (fuel : Nat) : Env := ⟨tys, [(33, callFn F_i_AreValidRows), (107, callFn F_i_rowTexts)], [], fuel, 8, 0⟩
theorem top_i_FormatRows (fuel : Nat) (p0 : List Row) : runF (E_i_FormatRows fuel) Try.f50 [.sl .row p0] =
 cond (lil p0.length) (cond (!(vRows p0))
 (some [(true, .s [])])
 (cond (mid p0.length) (some [(true, .s (jn [32] (p0.map fR)))]) none)) none := by kernel_rfl
theorem run_i_FormatRows (p0 : List Row) (hl : lil p0.length = true) : runF (E_i_FormatRows BIG) Try.f50 [.sl .row p0] = some [(true, .s (fRs p0))] := by
  rw [top_i_FormatRows, cond_true' hl]
  unfold fRs
  cases hv : vRows p0 with
  | false => rfl
  | true =>
    have h24 : p0.length ≤ 24 := by simp only [vRows, Bool.and_eq_true, decide_eq_true_eq] at hv; exact hv.2
    simp only [Bool.not_true, cond_false]
    rw [cond_true' (mid_iff.2 (by omega))]
    rfl
def F_i_FormatRows : Ai.Fn := ⟨[(false, [.sl .row])], [(false, 1)], false, fun ds => match ds with | [.sl .row p0] => lil p0.length | _ => false, fun ds => match ds with | [.sl .row p0] => some [(true, .s (fRs p0))] | _ => none⟩
theorem fg_i_FormatRows : Try.prog.funcs[50]? = some Try.f50 := by kernel_rfl
theorem c_i_FormatRows : Ctr Try.prog 50 F_i_FormatRows := by
  refine ctr_of_run (code := Try.f50.body.getD .skip) mixed fg_i_FormatRows (by kernel_rfl) (Nat.le_of_ble_eq_true (by kernel_rfl)) (Nat.le_of_ble_eq_true (by kernel_rfl)) fun ds out hd hr => ?_
  dsimp only [F_i_FormatRows] at hd hr
  split at hd
  · simp only [Option.some.injEq] at hr
    subst hr
    exact ⟨E_i_FormatRows BIG, tys_ok tysB_ok, FnsL.cons (fn_ok c_i_AreValidRows) fg_i_AreValidRows rfl rfl (FnsL.cons (fn_ok c_i_rowTexts) fg_i_rowTexts rfl rfl (FnsL.nil)), rfl, by kernel_rfl, by kernel_rfl, run_i_FormatRows _ hd⟩
  · cases hd
def E_i_FormatRuns (fuel : Nat) : Env := ⟨tys, [(50, callFn F_i_FormatRows), (105, callFn F_i_joined)], [(0, ([(3, .a .str 22), (7, .p), (8, .p), (9, .p)], 23))], fuel, 22, 0⟩
noncomputable def X_i_FormatRuns_0 (fuel : Nat) (n : Nat)  (v3 : List Str) (v7 : List (List Row)) (v8 : Int) (v9 : Int) : Res := loopF (E_i_FormatRuns fuel) Try.f108 [1, 1, 0, 1] [] n ⟨upds (fun _ => cU) [(3, .av (.one (.ls 22 0 none))), (22, .arr .str true v3), (7, .av (.one (.d (.sl .run v7)))), (8, .av (.one (.d (.i .i64 v8)))), (9, .av (.one (.d (.i .i64 v9))))], 23⟩
theorem top_i_FormatRuns (fuel : Nat) (p0 : List (List Row)) : runF (E_i_FormatRuns fuel) Try.f108 [.sl .run p0] =
 X_i_FormatRuns_0 fuel fuel ([] : List Str) p0 (p0.length : Int) 0 := by kernel_rfl
theorem st_i_FormatRuns_0 (fuel : Nat) (n : Nat)  (v3 : List Str) (v7 : List (List Row)) (v8 : Int) (v9 : Int) : X_i_FormatRuns_0 fuel (n + 1) v3 v7 v8 v9 =
 cond (decide (v9 < v8))
 (Option.bind (geti v7 v9) fun e1 => cond (lil e1.length) (cond (lim (v3.length + ([fRs e1] : List Str).length)) (X_i_FormatRuns_0 fuel n (v3 ++ ([fRs e1] : List Str)) v7 v8 (IntKind.i64.wrap (v9 + 1))) none) none)
 (cond (lil v3.length && lil (jsz [124] v3)) (some [(true, .s (jn [124] v3))]) none) := by kernel_rfl
noncomputable def R_i_FormatRuns_0 (fuel : Nat) (v7 : List (List Row)) : List (List Row) → Int → List Str → Res
  | [], v9, v3 => cond (lil v3.length && lil (jsz [124] v3)) (some [(true, .s (jn [124] v3))]) none
  | e0 :: r, v9, v3 => cond (lil e0.length) (cond (lim (v3.length + ([fRs e0] : List Str).length)) (R_i_FormatRuns_0 fuel v7 r (v9 + 1) (v3 ++ ([fRs e0] : List Str))) none) none
theorem lp_i_FormatRuns_0 (fuel : Nat) (v7 : List (List Row)) (hl : v7.length < 1099511627776) : ∀ (suf pre : List (List Row)) (n : Nat) (v9 : Int) (v3 : List Str), v7 = pre ++ suf → v9 = pre.length → suf.length < n → X_i_FormatRuns_0 fuel n v3 v7 (v7.length : Int) v9 = R_i_FormatRuns_0 fuel v7 suf v9 v3
  | [], pre, n, v9, v3, h, hi, hn => by
    obtain ⟨k, rfl, -⟩ := bump hn
    rw [st_i_FormatRuns_0, cond_false' (at_end h hi)]
    rfl
  | e0 :: suf, pre, n, v9, v3, h, hi, hn => by
    obtain ⟨k, rfl, hk⟩ := bump hn
    have ih := fun (q_v3 : List Str) => lp_i_FormatRuns_0 fuel v7 hl suf (pre ++ [e0]) k (v9 + 1) q_v3 (at_step h) (at_idx hi) hk
    rw [st_i_FormatRuns_0, cond_true' (at_mid h hi)]
    simp only [at_get h hi, at_arr h hi, at_chk h hi, cond_true, Option.bind_some, at_next' h hi hl, ih]
    rfl
theorem R_iu (fuel : Nat) (L : List (List Row)) : ∀ (l : List (List Row)) (i : Int) (acc : List Str), (∀ r ∈ l, lil r.length = true) → acc.length + l.length ≤ 1048576 → R_i_FormatRuns_0 fuel L l i acc = cond (lil (acc ++ l.map fRs).length && lil (jsz [124] (acc ++ l.map fRs))) (some [(true, .s (jn [124] (acc ++ l.map fRs)))]) none
  | [], i, acc, _, _ => by rw [List.map_nil, List.append_nil]; rfl
  | e :: l, i, acc, hr, h => by
    simp only [List.length_cons] at h
    rw [R_i_FormatRuns_0]
    simp only [hr e (by simp), cond_true]
    rw [cond_true' (lim_ok (by simp; omega)), R_iu fuel L l _ _ (fun r h => hr r (by simp [h])) (by simp; omega)]
    simp
theorem run_i_FormatRuns (p0 : List (List Row)) (h : (mid p0.length && lil p0.flatten.length) = true) : runF (E_i_FormatRuns BIG) Try.f108 [.sl .run p0] = some [(true, .s (fRuns p0))] := by
  obtain ⟨h1, h2⟩ := (Bool.and_eq_true _ _).mp h
  have h1 := mid_iff.1 h1
  have hr : ∀ r ∈ p0, lil r.length = true := fun r hr => lil_iff.2 (by have := flat_mem hr; have := lil_iff.1 h2; omega)
  rw [top_i_FormatRuns, lp_i_FormatRuns_0 BIG p0 (by omega) p0 [] BIG 0 [] rfl rfl (lil_big (by omega)), R_iu _ _ _ _ _ hr (by simp; omega)]
  have h2 := jsz_le [124] fRs 1585 p0 fun r _ => by have := fRs_len r; simp; omega
  rw [List.nil_append, cond_true']
  · rfl
  · simp only [Bool.and_eq_true, lil_iff, List.length_map]
    omega
def F_i_FormatRuns : Ai.Fn := ⟨[(false, [.sl .run])], [(false, 1)], false, fun ds => match ds with | [.sl .run p0] => mid p0.length && lil p0.flatten.length | _ => false, fun ds => match ds with | [.sl .run p0] => some [(true, .s (fRuns p0))] | _ => none⟩
theorem fg_i_FormatRuns : Try.prog.funcs[108]? = some Try.f108 := by kernel_rfl
theorem c_i_FormatRuns : Ctr Try.prog 108 F_i_FormatRuns := by
  refine ctr_of_run (code := Try.f108.body.getD .skip) mixed fg_i_FormatRuns (by kernel_rfl) (Nat.le_of_ble_eq_true (by kernel_rfl)) (Nat.le_of_ble_eq_true (by kernel_rfl)) fun ds out hd hr => ?_
  dsimp only [F_i_FormatRuns] at hd hr
  split at hd
  · simp only [Option.some.injEq] at hr
    subst hr
    exact ⟨E_i_FormatRuns BIG, tys_ok tysB_ok, FnsL.cons (fn_ok c_i_FormatRows) fg_i_FormatRows rfl rfl (FnsL.cons (fn_ok c_i_joined) fg_i_joined rfl rfl (FnsL.nil)), rfl, by kernel_rfl, by kernel_rfl, run_i_FormatRuns _ hd⟩
  · cases hd
end Go.Proofs.Ytfjdfbdiichhdaa
