/-
  Sorted rows, merged rows, valid runs; the reference's and the program's. Conditions: none.
-/
import Derived.Test.YtfjdfbdiichhdaaB1
namespace Go.Proofs.Ytfjdfbdiichhdaa
open Go Ai
set_option maxRecDepth 100000

/- Sorted rows. -/
theorem insR_snoc {x z : Row} : ∀ {l : List Row}, SortedR (l ++ [z]) → leR z x → insR x (l ++ [z]) = l ++ [z, x]
  | [], _, h => by simp [insR, h]
  | y :: l, hs, h => by
    have h1 := List.pairwise_cons.1 hs
    have hy : leR y x := leR_trans (h1.1 z (by simp)) h
    simp only [List.cons_append, insR, hy, if_true, insR_snoc h1.2 h]
theorem insR_at {x : Row} : ∀ (A B : List Row), SortedR (A ++ B) → (∀ a ∈ A, leR a x) → (∀ b ∈ B, ¬ leR b x) → insR x (A ++ B) = A ++ x :: B
  | [], [], _, _, _ => rfl
  | [], b :: B, _, _, hb => by simp [insR, hb b (by simp)]
  | a :: A, B, hs, ha, hb => by
    have h1 := List.pairwise_cons.1 hs
    simp only [List.cons_append, insR, ha a (by simp), if_true, insR_at A B h1.2 (fun y hy => ha y (by simp [hy])) hb]
def E_s_SortRows (fuel : Nat) : Env := ⟨tys, [(65, callFn F_s_CompareRows)], [(0, ([(0, .p), (3, .a .row 50), (4, .p)], 51)), (4, ([(0, .p), (3, .a .row 50), (4, .p), (5, .p)], 51))], fuel, 50, 0⟩
noncomputable def X_s_SortRows_0 (fuel : Nat) (n : Nat)  (v0 : List Row) (v3 : List Row) (v4 : Int) : Res := loopF (E_s_SortRows fuel) Try.f29 [1, 1, 0, 1] [] n ⟨upds (fun _ => cU) [(0, .av (.one (.d (.sl .row v0)))), (3, .av (.one (.ls 50 0 none))), (50, .arr .row true v3), (4, .av (.one (.d (.i .i64 v4))))], 51⟩
noncomputable def X_s_SortRows_2 (fuel : Nat) (n : Nat) (n0 : Nat) (v0 : List Row) (v3 : List Row) (v4 : Int) (v5 : Int) : Res := loopF (E_s_SortRows fuel) Try.f29 [1, 1, 0, 1, 0, 1, 0, 0, 1, 0] [loopF (E_s_SortRows fuel) Try.f29 [1, 1, 0, 1] [] n0] n ⟨upds (fun _ => cU) [(0, .av (.one (.d (.sl .row v0)))), (3, .av (.one (.ls 50 0 none))), (50, .arr .row true v3), (4, .av (.one (.d (.i .i64 v4)))), (5, .av (.one (.d (.i .i64 v5))))], 51⟩
theorem top_s_SortRows (fuel : Nat) (p0 : List Row) : runF (E_s_SortRows fuel) Try.f29 [.sl .row p0] =
 X_s_SortRows_0 fuel fuel p0 ([] : List Row) 0 := by kernel_rfl
theorem st_s_SortRows_0 (fuel : Nat) (n : Nat)  (v0 : List Row) (v3 : List Row) (v4 : Int) : X_s_SortRows_0 fuel (n + 1) v0 v3 v4 =
 cond (decide (v4 < (v0.length : Int)))
 (X_s_SortRows_2 fuel fuel n v0 v3 v4 (v3.length : Int))
 (some [(true, .sl .row v3)]) := by kernel_rfl
theorem st_s_SortRows_2 (fuel : Nat) (n : Nat) (n0 : Nat) (v0 : List Row) (v3 : List Row) (v4 : Int) (v5 : Int) : X_s_SortRows_2 fuel (n + 1) n0 v0 v3 v4 v5 =
 cond (decide (v5 > 0))
 (cond (decide (0 ≤ (IntKind.i64.wrap (v5 - 1))) && decide (((IntKind.i64.wrap (v5 - 1)).toNat) < v3.length)) (Option.bind (v3[0 + ((IntKind.i64.wrap (v5 - 1)).toNat)]?) fun e1 => Option.bind (geti v0 v4) fun e2 => cond (decide ((cmpR e1 e2) > 0))
 (X_s_SortRows_2 fuel n n0 v0 v3 v4 (IntKind.i64.wrap (v5 - 1)))
 (Option.bind (geti v0 v4) fun e3 => cond (decide (0 ≤ v5) && decide (v5 ≤ (v3.length : Int))) (cond (lim (([e3] : List Row).length + (v3.drop (0 + v5.toNat)).length)) (cond (decide (0 ≤ v5) && decide (v5 ≤ (v3.length : Int))) (cond (lim (([] : List Row).length + (v3.take v5.toNat).length)) (cond (lim ((([] : List Row) ++ (v3.take v5.toNat)).length + (([e3] : List Row) ++ (v3.drop (0 + v5.toNat))).length)) (X_s_SortRows_0 fuel n0 v0 ((([] : List Row) ++ (v3.take v5.toNat)) ++ (([e3] : List Row) ++ (v3.drop (0 + v5.toNat)))) (IntKind.i64.wrap (v4 + 1))) none) none) none) none) none)) none)
 (Option.bind (geti v0 v4) fun e4 => cond (decide (0 ≤ v5) && decide (v5 ≤ (v3.length : Int))) (cond (lim (([e4] : List Row).length + (v3.drop (0 + v5.toNat)).length)) (cond (decide (0 ≤ v5) && decide (v5 ≤ (v3.length : Int))) (cond (lim (([] : List Row).length + (v3.take v5.toNat).length)) (cond (lim ((([] : List Row) ++ (v3.take v5.toNat)).length + (([e4] : List Row) ++ (v3.drop (0 + v5.toNat))).length)) (X_s_SortRows_0 fuel n0 v0 ((([] : List Row) ++ (v3.take v5.toNat)) ++ (([e4] : List Row) ++ (v3.drop (0 + v5.toNat)))) (IntKind.i64.wrap (v4 + 1))) none) none) none) none) none) := by kernel_rfl
theorem lp_sr2 (fuel : Nat) (L : List Row) (n0 : Nat) (x : Row) (i : Int) (hx : geti L i = some x) : ∀ (k : Nat) (A B : List Row) (n : Nat), A.length = k → SortedR (A ++ B) → (∀ b ∈ B, ¬ leR b x) → k < n → (A ++ B).length < 17179869184 → ∀ j : Int, j = A.length →
    X_s_SortRows_2 fuel n n0 L (A ++ B) i j = X_s_SortRows_0 fuel n0 L (insR x (A ++ B)) (IntKind.i64.wrap (i + 1)) := by
  have stop : ∀ (A B : List Row), SortedR (A ++ B) → (∀ a ∈ A, leR a x) → (∀ b ∈ B, ¬ leR b x) → (A ++ B).length < 17179869184 → ∀ j : Int, j = A.length →
      (Option.bind (geti L i) fun e3 => cond (decide (0 ≤ j) && decide (j ≤ ((A ++ B).length : Int))) (cond (lim (([e3] : List Row).length + ((A ++ B).drop (0 + j.toNat)).length)) (cond (decide (0 ≤ j) && decide (j ≤ ((A ++ B).length : Int))) (cond (lim (([] : List Row).length + ((A ++ B).take j.toNat).length)) (cond (lim ((([] : List Row) ++ ((A ++ B).take j.toNat)).length + (([e3] : List Row) ++ ((A ++ B).drop (0 + j.toNat))).length)) (X_s_SortRows_0 fuel n0 L ((([] : List Row) ++ ((A ++ B).take j.toNat)) ++ (([e3] : List Row) ++ ((A ++ B).drop (0 + j.toNat)))) (IntKind.i64.wrap (i + 1))) none) none) none) none) none)
        = X_s_SortRows_0 fuel n0 L (insR x (A ++ B)) (IntKind.i64.wrap (i + 1)) := by
    intro A B hs ha hb hl j hj
    subst hj
    have hc : (decide (0 ≤ (A.length : Int)) && decide ((A.length : Int) ≤ ((A ++ B).length : Int))) = true := by simp <;> omega
    simp only [List.length_append] at hl
    simp only [hx, Option.bind_some, hc, cond_true, Int.toNat_natCast, Nat.zero_add, List.take_left' rfl, List.drop_left' rfl, List.nil_append]
    rw [cond_true' (lim_ok (by simp <;> omega)), cond_true' (lim_ok (by simp <;> omega)), cond_true' (lim_ok (by simp <;> omega)), insR_at A B hs ha hb]
    rfl
  intro k
  induction k with
  | zero =>
    intro A B n hk hs hb hn hl j hj
    obtain rfl := List.length_eq_zero_iff.1 hk
    obtain ⟨m, rfl, -⟩ := bump hn
    rw [st_s_SortRows_2, cond_false' (by subst hj; simp)]
    exact stop [] B hs (by simp) hb hl j hj
  | succ k ih =>
    intro A B n hk hs hb hn hl j hj
    obtain ⟨m, rfl, hm⟩ := bump hn
    obtain ⟨S, z, rfl⟩ : ∃ S z, A = S ++ [z] := by
      rcases List.eq_nil_or_concat A with e | ⟨S, z, e⟩
      · subst e; simp at hk
      · exact ⟨S, z, by simpa using e⟩
    have hl' := hl
    simp only [List.length_append, List.length_cons, List.length_nil] at hl hk hj
    have hw : IntKind.i64.wrap (j - 1) = (S.length : Nat) := by rw [wrap64 (by omega) (by omega)]; omega
    rw [st_s_SortRows_2, cond_true' (by simp <;> omega), hw]
    simp only [Int.toNat_natCast, Nat.zero_add]
    have e1 : S ++ [z] ++ B = S ++ z :: B := by simp
    rw [cond_true' (chk (by simp <;> omega)), e1, getE_app rfl]
    simp only [Option.bind_some, hx, cmpB_gt]
    by_cases hc : leR z x
    · rw [cond_false' (by simpa using hc)]
      have := stop (S ++ [z]) B hs (fun a ha => by
        rcases List.mem_append.1 ha with ha | ha
        · exact leR_trans ((sorted_append.1 (sorted_append.1 hs).1).2.2 a ha z (by simp)) hc
        · simp at ha; subst ha; exact hc) hb hl' j (by simp <;> omega)
      rw [e1] at this
      simp only [hx, Option.bind_some, Nat.zero_add] at this
      exact this
    · rw [cond_true' (by simpa using hc), ih S (z :: B) m (by omega) (by rw [← e1]; exact hs) (fun b hb' => by
        rcases List.mem_cons.1 hb' with rfl | hb'
        · exact hc
        · exact hb b hb') (by omega) (by rw [← e1]; exact hl') _ rfl]
theorem insR_comm_sort (x : Row) (l : List Row) (acc : List Row) (h : acc = sortR l) : insR x acc = sortR (x :: l) := by subst h; rfl
theorem lp_sr0 (fuel : Nat) (hf : 17179869184 ≤ fuel) (L : List Row) (hL : L.length < 17179869184) : ∀ (suf pre : List Row) (n : Nat) (i : Int), L = pre ++ suf → i = pre.length → suf.length < n → X_s_SortRows_0 fuel n L (sortR pre) i = some [(true, .sl .row (sortR L))]
  | [], pre, n, i, h, hi, hn => by
    obtain ⟨k, rfl, -⟩ := bump hn
    rw [st_s_SortRows_0, cond_false' (at_end h hi)]
    simp [h]
  | x :: suf, pre, n, i, h, hi, hn => by
    obtain ⟨k, rfl, hk⟩ := bump hn
    have hlen := congrArg List.length h
    simp only [List.length_append, List.length_cons] at hlen
    have hsl := sortR_len pre
    rw [st_s_SortRows_0, cond_true' (at_mid h hi)]
    have := lp_sr2 fuel L k x i (at_get h hi) (sortR pre).length (sortR pre) [] fuel rfl (by simpa using sortR_sorted pre) (by simp) (by omega) (by simp <;> omega) _ rfl
    rw [List.append_nil] at this
    rw [this, at_next h hi (lil_small hL)]
    have e : insR x (sortR pre) = sortR (pre ++ [x]) := eq_sortR ((insR_perm x _).trans (((sortR_perm pre).cons x).trans (List.perm_append_comm (l₁ := [x])))) (insR_sorted x (sortR_sorted pre))
    rw [e]
    exact lp_sr0 fuel hf L hL suf (pre ++ [x]) k _ (at_step h) rfl hk
theorem run_s_SortRows (p0 : List Row) (h : lil p0.length = true) : runF (E_s_SortRows BIG) Try.f29 [.sl .row p0] = some [(true, .sl .row (sortR p0))] := by
  have hs := lil_iff.1 h
  rw [top_s_SortRows]
  exact lp_sr0 BIG (by unfold BIG; omega) p0 hs p0 [] BIG 0 rfl rfl (lil_big hs)
def F_s_SortRows : Ai.Fn := ⟨[(false, [.sl .row])], [(false, 1)], false, fun ds => match ds with | [.sl .row p0] => lil p0.length | _ => false, fun ds => match ds with | [.sl .row p0] => some [(true, .sl .row (sortR p0))] | _ => none⟩
theorem fg_s_SortRows : Try.prog.funcs[29]? = some Try.f29 := by kernel_rfl
theorem c_s_SortRows : Ctr Try.prog 29 F_s_SortRows := by
  refine ctr_of_run (code := Try.f29.body.getD .skip) mixed fg_s_SortRows (by kernel_rfl) (Nat.le_of_ble_eq_true (by kernel_rfl)) (Nat.le_of_ble_eq_true (by kernel_rfl)) fun ds out hd hr => ?_
  dsimp only [F_s_SortRows] at hd hr
  split at hd
  · simp only [Option.some.injEq] at hr
    subst hr
    exact ⟨E_s_SortRows BIG, tys_ok tysB_ok, FnsL.cons (fn_ok c_s_CompareRows) fg_s_CompareRows rfl rfl (FnsL.nil), rfl, by kernel_rfl, by kernel_rfl, run_s_SortRows _ hd⟩
  · cases hd
def E_i_SortRows (fuel : Nat) : Env := ⟨tys, [(83, callFn F_i_clone), (84, callL F_z_SortStableFunc_Row)], [], fuel, 9, 0⟩
theorem top_i_SortRows (fuel : Nat) (p0 : List Row) : runF (E_i_SortRows fuel) Try.f36 [.sl .row p0] =
 cond (lil p0.length) (cond (decide (p0.length ≤ 39)) (some [(true, .sl .row (sortR p0))]) none) none := by kernel_rfl
theorem run_i_SortRows (p0 : List Row) (h : decide (p0.length ≤ 39) = true) : runF (E_i_SortRows BIG) Try.f36 [.sl .row p0] = some [(true, .sl .row (sortR p0))] := by
  have h1 : p0.length ≤ 39 := of_decide_eq_true h
  rw [top_i_SortRows, cond_true' (lil_iff.2 (by omega)), cond_true' h]
def F_i_SortRows : Ai.Fn := ⟨[(false, [.sl .row])], [(false, 1)], false, fun ds => match ds with | [.sl .row p0] => decide (p0.length ≤ 39) | _ => false, fun ds => match ds with | [.sl .row p0] => some [(true, .sl .row (sortR p0))] | _ => none⟩
theorem fg_i_SortRows : Try.prog.funcs[36]? = some Try.f36 := by kernel_rfl
theorem c_i_SortRows : Ctr Try.prog 36 F_i_SortRows := by
  refine ctr_of_run (code := Try.f36.body.getD .skip) mixed fg_i_SortRows (by kernel_rfl) (Nat.le_of_ble_eq_true (by kernel_rfl)) (Nat.le_of_ble_eq_true (by kernel_rfl)) fun ds out hd hr => ?_
  dsimp only [F_i_SortRows] at hd hr
  split at hd
  · simp only [Option.some.injEq] at hr
    subst hr
    exact ⟨E_i_SortRows BIG, tys_ok tysB_ok, FnsL.cons (fn_ok c_i_clone) fg_i_clone rfl rfl (FnsL.cons (c_z_SortStableFunc_Row) fg_z_SortStableFunc_Row rfl rfl (FnsL.nil)), rfl, by kernel_rfl, by kernel_rfl, run_i_SortRows _ hd⟩
  · cases hd

/- Equal bags. -/
def eqBag (a b : List Row) : Bool := decide (sortR a = sortR b)
def E_s_EqualBags (fuel : Nat) : Env := ⟨tys, [(29, callFn F_s_SortRows)], [(0, ([(5, .a .row 32), (6, .a .row 33), (7, .p)], 34))], fuel, 32, 0⟩
noncomputable def X_s_EqualBags_0 (fuel : Nat) (n : Nat)  (v5 : List Row) (v6 : List Row) (v7 : Int) : Res := loopF (E_s_EqualBags fuel) Try.f68 [1, 1, 1, 1, 0, 1] [] n ⟨upds (fun _ => cU) [(5, .av (.one (.ls 32 0 none))), (32, .arr .row true v5), (6, .av (.one (.ls 33 0 none))), (33, .arr .row true v6), (7, .av (.one (.d (.i .i64 v7))))], 34⟩
theorem top_s_EqualBags (fuel : Nat) (p0 : List Row) (p1 : List Row) : runF (E_s_EqualBags fuel) Try.f68 [.sl .row p0, .sl .row p1] =
 cond (lil p0.length) (cond (lil p1.length) (cond (!decide (((sortR p0).length : Int) = ((sortR p1).length : Int)))
 (some [(true, .b false)])
 (X_s_EqualBags_0 fuel fuel (sortR p0) (sortR p1) 0)) none) none := by kernel_rfl
theorem st_s_EqualBags_0 (fuel : Nat) (n : Nat)  (v5 : List Row) (v6 : List Row) (v7 : Int) : X_s_EqualBags_0 fuel (n + 1) v5 v6 v7 =
 cond (decide (v7 < (v5.length : Int)))
 (cond (decide (0 ≤ v7) && decide (v7.toNat < v5.length)) (Option.bind (v5[0 + v7.toNat]?) fun e1 => cond (decide (0 ≤ v7) && decide (v7.toNat < v6.length)) (Option.bind (v6[0 + v7.toNat]?) fun e2 => cond (!(decide (e1.k = e2.k) && (decide (e1.v = e2.v) && (decide (e1.w = e2.w) && true))))
 (some [(true, .b false)])
 (X_s_EqualBags_0 fuel n v5 v6 (IntKind.i64.wrap (v7 + 1)))) none) none)
 (some [(true, .b true)]) := by kernel_rfl
noncomputable def R_s_EqualBags_0 (fuel : Nat) (v5 : List Row) : List Row → Int → List Row → Res
  | [], v7, v6 => some [(true, .b true)]
  | e0 :: r, v7, v6 => cond (decide (0 ≤ v7) && decide (v7.toNat < v6.length)) (Option.bind (v6[0 + v7.toNat]?) fun e2 => cond (!(decide (e0.k = e2.k) && (decide (e0.v = e2.v) && (decide (e0.w = e2.w) && true))))
       (some [(true, .b false)])
       (R_s_EqualBags_0 fuel v5 r (v7 + 1) v6)) none
theorem lp_s_EqualBags_0 (fuel : Nat) (v5 : List Row) (hl : v5.length < 1099511627776) : ∀ (suf pre : List Row) (n : Nat) (v7 : Int) (v6 : List Row), v5 = pre ++ suf → v7 = pre.length → suf.length < n → X_s_EqualBags_0 fuel n v5 v6 v7 = R_s_EqualBags_0 fuel v5 suf v7 v6
  | [], pre, n, v7, v6, h, hi, hn => by
    obtain ⟨k, rfl, -⟩ := bump hn
    rw [st_s_EqualBags_0, cond_false' (at_end h hi)]
    rfl
  | e0 :: suf, pre, n, v7, v6, h, hi, hn => by
    obtain ⟨k, rfl, hk⟩ := bump hn
    have ih := fun (q_v6 : List Row) => lp_s_EqualBags_0 fuel v5 hl suf (pre ++ [e0]) k (v7 + 1) q_v6 (at_step h) (at_idx hi) hk
    rw [st_s_EqualBags_0, cond_true' (at_mid h hi)]
    simp only [at_get h hi, at_arr h hi, at_chk h hi, cond_true, Option.bind_some, at_next' h hi hl, ih]
    rfl
theorem R_eb (fuel : Nat) (L : List Row) : ∀ (l l' pre : List Row) (i : Int), l.length = l'.length → i = pre.length → R_s_EqualBags_0 fuel L l i (pre ++ l') = some [(true, .b (decide (l = l')))]
  | [], [], pre, i, _, _ => rfl
  | e :: l, e' :: l', pre, i, h, hi => by
    have ih := R_eb fuel L l l' (pre ++ [e']) (i + 1) (by simpa using h) (at_idx hi)
    simp only [List.append_assoc, List.singleton_append] at ih
    rw [R_s_EqualBags_0, cond_true' (at_chk (pre := pre) (e := e') (suf := l') rfl hi), at_arr (pre := pre) (e := e') (suf := l') rfl hi]
    simp only [Option.bind_some, rowEq, ih]
    by_cases h1 : e = e' <;> simp [h1]
  | [], _ :: _, _, _, h, _ => by simp at h
  | _ :: _, [], _, _, h, _ => by simp at h
theorem run_s_EqualBags (p0 p1 : List Row) (h : (lil p0.length && lil p1.length) = true) : runF (E_s_EqualBags BIG) Try.f68 [.sl .row p0, .sl .row p1] = some [(true, .b (eqBag p0 p1))] := by
  obtain ⟨h0, h1⟩ := (Bool.and_eq_true _ _).mp h
  have hs := lil_iff.1 h0
  rw [top_s_EqualBags, cond_true' h0, cond_true' h1]
  by_cases hl : (sortR p0).length = (sortR p1).length
  · rw [cond_false' (by simp [hl]), lp_s_EqualBags_0 BIG (sortR p0) (by rw [sortR_len]; exact lil_small hs) (sortR p0) [] BIG 0 (sortR p1) rfl rfl (by rw [sortR_len]; exact lil_big hs)]
    exact R_eb BIG (sortR p0) (sortR p0) (sortR p1) [] 0 hl rfl
  · rw [cond_true' (by simp <;> omega)]
    have : sortR p0 ≠ sortR p1 := fun e => hl (by rw [e])
    simp [eqBag, this]
def F_s_EqualBags : Ai.Fn := ⟨[(false, [.sl .row]), (false, [.sl .row])], [(false, 1)], false, fun ds => match ds with | [.sl .row p0, .sl .row p1] => lil p0.length && lil p1.length | _ => false, fun ds => match ds with | [.sl .row p0, .sl .row p1] => some [(true, .b (eqBag p0 p1))] | _ => none⟩
theorem fg_s_EqualBags : Try.prog.funcs[68]? = some Try.f68 := by kernel_rfl
theorem c_s_EqualBags : Ctr Try.prog 68 F_s_EqualBags := by
  refine ctr_of_run (code := Try.f68.body.getD .skip) mixed fg_s_EqualBags (by kernel_rfl) (Nat.le_of_ble_eq_true (by kernel_rfl)) (Nat.le_of_ble_eq_true (by kernel_rfl)) fun ds out hd hr => ?_
  dsimp only [F_s_EqualBags] at hd hr
  split at hd
  · simp only [Option.some.injEq] at hr
    subst hr
    exact ⟨E_s_EqualBags BIG, tys_ok tysB_ok, FnsL.cons (fn_ok c_s_SortRows) fg_s_SortRows rfl rfl (FnsL.nil), rfl, by kernel_rfl, by kernel_rfl, run_s_EqualBags _ _ hd⟩
  · cases hd
def E_i_EqualBags (fuel : Nat) : Env := ⟨tys, [(35, callFn F_i_equal), (36, callFn F_i_SortRows)], [], fuel, 17, 0⟩
theorem top_i_EqualBags (fuel : Nat) (p0 : List Row) (p1 : List Row) : runF (E_i_EqualBags fuel) Try.f79 [.sl .row p0, .sl .row p1] =
 cond (decide ((p0.length : Int) = (p1.length : Int)))
 (cond (decide (p0.length ≤ 39)) (cond (decide (p1.length ≤ 39)) (cond (lil (sortR p0).length) (some [(true, .b (decide ((sortR p0) = (sortR p1))))]) none) none) none)
 (some [(true, .b false)]) := by kernel_rfl
theorem run_i_EqualBags (p0 p1 : List Row) (h : decide (p1.length ≤ 39) = true) : runF (E_i_EqualBags BIG) Try.f79 [.sl .row p0, .sl .row p1] = some [(true, .b (eqBag p0 p1))] := by
  have h1 : p1.length ≤ 39 := of_decide_eq_true h
  rw [top_i_EqualBags]
  by_cases hl : p0.length = p1.length
  · rw [cond_true' (by simp [hl]), cond_true' (by simp <;> omega), cond_true' h, cond_true' (lil_iff.2 (by rw [sortR_len]; omega))]
    rfl
  · rw [cond_false' (by simp <;> omega)]
    have : sortR p0 ≠ sortR p1 := fun e => hl (by rw [← sortR_len p0, e, sortR_len])
    simp [eqBag, this]
def F_i_EqualBags : Ai.Fn := ⟨[(false, [.sl .row]), (false, [.sl .row])], [(false, 1)], false, fun ds => match ds with | [.sl .row p0, .sl .row p1] => decide (p1.length ≤ 39) | _ => false, fun ds => match ds with | [.sl .row p0, .sl .row p1] => some [(true, .b (eqBag p0 p1))] | _ => none⟩
theorem fg_i_EqualBags : Try.prog.funcs[79]? = some Try.f79 := by kernel_rfl
theorem c_i_EqualBags : Ctr Try.prog 79 F_i_EqualBags := by
  refine ctr_of_run (code := Try.f79.body.getD .skip) mixed fg_i_EqualBags (by kernel_rfl) (Nat.le_of_ble_eq_true (by kernel_rfl)) (Nat.le_of_ble_eq_true (by kernel_rfl)) fun ds out hd hr => ?_
  dsimp only [F_i_EqualBags] at hd hr
  split at hd
  · simp only [Option.some.injEq] at hr
    subst hr
    exact ⟨E_i_EqualBags BIG, tys_ok tysB_ok, FnsL.cons (fn_ok c_i_equal) fg_i_equal rfl rfl (FnsL.cons (fn_ok c_i_SortRows) fg_i_SortRows rfl rfl (FnsL.nil)), rfl, by kernel_rfl, by kernel_rfl, run_i_EqualBags _ _ hd⟩
  · cases hd

/- Merged rows. -/
def mergeS : List Row → List Row → List Row
  | [], b => b
  | a, [] => a
  | x :: a, y :: b => if leR x y then x :: mergeS a (y :: b) else y :: mergeS (x :: a) b
  termination_by a b => a.length + b.length
theorem mergeS_len : ∀ a b : List Row, (mergeS a b).length = a.length + b.length
  | [], b => by simp [mergeS]
  | x :: a, [] => by simp [mergeS]
  | x :: a, y :: b => by
    rw [mergeS]
    split
    · simp only [List.length_cons, mergeS_len a (y :: b)]; omega
    · simp only [List.length_cons, mergeS_len (x :: a) b]; omega
  termination_by a b => a.length + b.length
theorem cmpB_le {a b : Row} : decide (cmpR a b ≤ 0) = decide (leR a b) := by simp only [cmp_le]
def E_s_MergeSorted (fuel : Nat) : Env := ⟨tys, [(65, callFn F_s_CompareRows)], [(0, ([(0, .p), (1, .p), (5, .a .row 60), (6, .p), (7, .p)], 61))], fuel, 60, 0⟩
noncomputable def X_s_MergeSorted_0 (fuel : Nat) (n : Nat)  (v0 : List Row) (v1 : List Row) (v5 : List Row) (v6 : Int) (v7 : Int) : Res := loopF (E_s_MergeSorted fuel) Try.f69 [1, 1, 1, 1, 0] [] n ⟨upds (fun _ => cU) [(0, .av (.one (.d (.sl .row v0)))), (1, .av (.one (.d (.sl .row v1)))), (5, .av (.one (.ls 60 0 none))), (60, .arr .row true v5), (6, .av (.one (.d (.i .i64 v6)))), (7, .av (.one (.d (.i .i64 v7))))], 61⟩
theorem top_s_MergeSorted (fuel : Nat) (p0 : List Row) (p1 : List Row) : runF (E_s_MergeSorted fuel) Try.f69 [.sl .row p0, .sl .row p1] =
 X_s_MergeSorted_0 fuel fuel p0 p1 ([] : List Row) 0 0 := by kernel_rfl
theorem st_s_MergeSorted_0 (fuel : Nat) (n : Nat)  (v0 : List Row) (v1 : List Row) (v5 : List Row) (v6 : Int) (v7 : Int) : X_s_MergeSorted_0 fuel (n + 1) v0 v1 v5 v6 v7 =
 cond (decide (v6 < (v0.length : Int)))
 (cond (decide (v7 = (v1.length : Int)))
 (Option.bind (geti v0 v6) fun e1 => cond (lim (v5.length + ([e1] : List Row).length)) (X_s_MergeSorted_0 fuel n v0 v1 (v5 ++ ([e1] : List Row)) (IntKind.i64.wrap (v6 + 1)) v7) none)
 (cond (decide (v6 < (v0.length : Int)))
 (Option.bind (geti v0 v6) fun e2 => Option.bind (geti v1 v7) fun e3 => cond (decide ((cmpR e2 e3) ≤ 0))
 (Option.bind (geti v0 v6) fun e4 => cond (lim (v5.length + ([e4] : List Row).length)) (X_s_MergeSorted_0 fuel n v0 v1 (v5 ++ ([e4] : List Row)) (IntKind.i64.wrap (v6 + 1)) v7) none)
 (Option.bind (geti v1 v7) fun e5 => cond (lim (v5.length + ([e5] : List Row).length)) (X_s_MergeSorted_0 fuel n v0 v1 (v5 ++ ([e5] : List Row)) v6 (IntKind.i64.wrap (v7 + 1))) none))
 (Option.bind (geti v1 v7) fun e6 => cond (lim (v5.length + ([e6] : List Row).length)) (X_s_MergeSorted_0 fuel n v0 v1 (v5 ++ ([e6] : List Row)) v6 (IntKind.i64.wrap (v7 + 1))) none)))
 (cond (decide (v7 < (v1.length : Int)))
 (cond (decide (v7 = (v1.length : Int)))
 (Option.bind (geti v0 v6) fun e7 => cond (lim (v5.length + ([e7] : List Row).length)) (X_s_MergeSorted_0 fuel n v0 v1 (v5 ++ ([e7] : List Row)) (IntKind.i64.wrap (v6 + 1)) v7) none)
 (cond (decide (v6 < (v0.length : Int)))
 (Option.bind (geti v0 v6) fun e8 => Option.bind (geti v1 v7) fun e9 => cond (decide ((cmpR e8 e9) ≤ 0))
 (Option.bind (geti v0 v6) fun e10 => cond (lim (v5.length + ([e10] : List Row).length)) (X_s_MergeSorted_0 fuel n v0 v1 (v5 ++ ([e10] : List Row)) (IntKind.i64.wrap (v6 + 1)) v7) none)
 (Option.bind (geti v1 v7) fun e11 => cond (lim (v5.length + ([e11] : List Row).length)) (X_s_MergeSorted_0 fuel n v0 v1 (v5 ++ ([e11] : List Row)) v6 (IntKind.i64.wrap (v7 + 1))) none))
 (Option.bind (geti v1 v7) fun e12 => cond (lim (v5.length + ([e12] : List Row).length)) (X_s_MergeSorted_0 fuel n v0 v1 (v5 ++ ([e12] : List Row)) v6 (IntKind.i64.wrap (v7 + 1))) none)))
 (some [(true, .sl .row v5)])) := by kernel_rfl
theorem lp_ms (fuel : Nat) (a b : List Row) (hb : a.length + b.length < 17179869184) : ∀ (s : Nat) (sa sb pa pb acc : List Row) (n : Nat) (i j : Int), sa.length + sb.length ≤ s → s < n → a = pa ++ sa → b = pb ++ sb → i = pa.length → j = pb.length → acc.length = pa.length + pb.length →
    X_s_MergeSorted_0 fuel n a b acc i j = some [(true, .sl .row (acc ++ mergeS sa sb))] := by
  intro s
  induction s with
  | zero =>
    intro sa sb pa pb acc n i j hs hn ha hb' hi hj hacc
    obtain ⟨k, rfl, -⟩ := bump hn
    obtain rfl : sa = [] := List.length_eq_zero_iff.1 (by omega)
    obtain rfl : sb = [] := List.length_eq_zero_iff.1 (by omega)
    rw [st_s_MergeSorted_0, cond_false' (at_end ha hi), cond_false' (at_end hb' hj)]
    simp [mergeS]
  | succ s ih =>
    intro sa sb pa pb acc n i j hs hn ha hb' hi hj hacc
    obtain ⟨k, rfl, hk⟩ := bump hn
    have la := congrArg List.length ha
    have lb := congrArg List.length hb'
    simp only [List.length_append] at la lb
    have ea : a.length < 1099511627776 := by omega
    have eb : b.length < 1099511627776 := by omega
    cases sa with
    | nil =>
      cases sb with
      | nil =>
        rw [st_s_MergeSorted_0, cond_false' (at_end ha hi), cond_false' (at_end hb' hj)]
        simp [mergeS]
      | cons y sb =>
        simp only [List.length_cons, List.length_nil] at la lb hs
        rw [st_s_MergeSorted_0, cond_false' (at_end ha hi), cond_true' (at_mid hb' hj), cond_false' (by simp <;> omega), cond_false' (at_end ha hi), at_get hb' hj]
        simp only [Option.bind_some]
        rw [cond_true' (lim_ok (by simp <;> omega)), at_next hb' hj eb, ih [] sb pa (pb ++ [y]) (acc ++ [y]) k i _ (by simp <;> omega) (by omega) ha (at_step hb') hi rfl (by simp <;> omega)]
        simp [mergeS]
    | cons x sa =>
      simp only [List.length_cons] at la hs
      rw [st_s_MergeSorted_0, cond_true' (at_mid ha hi)]
      cases sb with
      | nil =>
        rw [cond_true' (by simp at lb ⊢; omega), at_get ha hi]
        simp only [Option.bind_some]
        rw [cond_true' (lim_ok (by simp <;> omega)), at_next ha hi ea, ih sa [] (pa ++ [x]) pb (acc ++ [x]) k _ j (by simp at hs ⊢; omega) (by omega) (at_step ha) hb' rfl hj (by simp <;> omega)]
        cases sa <;> simp [mergeS]
      | cons y sb =>
        simp only [List.length_cons] at lb hs
        rw [cond_false' (by simp <;> omega), cond_true' (at_mid ha hi), at_get ha hi, at_get hb' hj]
        simp only [Option.bind_some, cmpB_le]
        by_cases hc : leR x y
        · rw [cond_true' (by simpa using hc), cond_true' (lim_ok (by simp <;> omega)), at_next ha hi ea, ih sa (y :: sb) (pa ++ [x]) pb (acc ++ [x]) k _ j (by simp <;> omega) (by omega) (at_step ha) hb' rfl hj (by simp <;> omega)]
          rw [mergeS, if_pos hc]; simp
        · rw [cond_false' (by simpa using hc), cond_true' (lim_ok (by simp <;> omega)), at_next hb' hj eb, ih (x :: sa) sb pa (pb ++ [y]) (acc ++ [y]) k i _ (by simp <;> omega) (by omega) ha (at_step hb') hi rfl (by simp <;> omega)]
          rw [mergeS, if_neg hc]; simp
theorem run_s_MergeSorted (p0 p1 : List Row) (h : lil (p0.length + p1.length) = true) : runF (E_s_MergeSorted BIG) Try.f69 [.sl .row p0, .sl .row p1] = some [(true, .sl .row (mergeS p0 p1))] := by
  have hs := lil_iff.1 h
  rw [top_s_MergeSorted, lp_ms BIG p0 p1 hs (p0.length + p1.length) p0 p1 [] [] [] BIG 0 0 (Nat.le_refl _) (lil_big hs) rfl rfl rfl rfl rfl]
  rfl
def F_s_MergeSorted : Ai.Fn := ⟨[(false, [.sl .row]), (false, [.sl .row])], [(false, 1)], false, fun ds => match ds with | [.sl .row p0, .sl .row p1] => lil (p0.length + p1.length) | _ => false, fun ds => match ds with | [.sl .row p0, .sl .row p1] => some [(true, .sl .row (mergeS p0 p1))] | _ => none⟩
theorem fg_s_MergeSorted : Try.prog.funcs[69]? = some Try.f69 := by kernel_rfl
theorem c_s_MergeSorted : Ctr Try.prog 69 F_s_MergeSorted := by
  refine ctr_of_run (code := Try.f69.body.getD .skip) mixed fg_s_MergeSorted (by kernel_rfl) (Nat.le_of_ble_eq_true (by kernel_rfl)) (Nat.le_of_ble_eq_true (by kernel_rfl)) fun ds out hd hr => ?_
  dsimp only [F_s_MergeSorted] at hd hr
  split at hd
  · simp only [Option.some.injEq] at hr
    subst hr
    exact ⟨E_s_MergeSorted BIG, tys_ok tysB_ok, FnsL.cons (fn_ok c_s_CompareRows) fg_s_CompareRows rfl rfl (FnsL.nil), rfl, by kernel_rfl, by kernel_rfl, run_s_MergeSorted _ _ hd⟩
  · cases hd
def E_i_MergeSorted (fuel : Nat) : Env := ⟨tys, [(85, callFn F_i_CompareRows)], [(0, ([(0, .p), (1, .p), (5, .a .row 50)], 51))], fuel, 50, 0⟩
noncomputable def X_i_MergeSorted_0 (fuel : Nat) (n : Nat)  (v0 : List Row) (v1 : List Row) (v5 : List Row) : Res := loopF (E_i_MergeSorted fuel) Try.f81 [1, 1, 0] [] n ⟨upds (fun _ => cU) [(0, .av (.one (.d (.sl .row v0)))), (1, .av (.one (.d (.sl .row v1)))), (5, .av (.one (.ls 50 0 none))), (50, .arr .row true v5)], 51⟩
theorem top_i_MergeSorted (fuel : Nat) (p0 : List Row) (p1 : List Row) : runF (E_i_MergeSorted fuel) Try.f81 [.sl .row p0, .sl .row p1] =
 X_i_MergeSorted_0 fuel fuel p0 p1 ([] : List Row) := by kernel_rfl
theorem st_i_MergeSorted_0 (fuel : Nat) (n : Nat)  (v0 : List Row) (v1 : List Row) (v5 : List Row) : X_i_MergeSorted_0 fuel (n + 1) v0 v1 v5 =
 cond (decide ((v0.length : Int) > 0))
 (cond (decide ((v1.length : Int) = 0))
 (Option.bind (geti v0 0) fun e1 => cond (lim (v5.length + ([e1] : List Row).length)) (cond (decide (0 ≤ 1) && decide (1 ≤ (v0.length : Int))) (X_i_MergeSorted_0 fuel n (v0.drop 1) v1 (v5 ++ ([e1] : List Row))) none) none)
 (cond (decide ((v0.length : Int) > 0))
 (Option.bind (geti v0 0) fun e2 => Option.bind (geti v1 0) fun e3 => cond (decide ((cmpR e2 e3) ≤ 0))
 (Option.bind (geti v0 0) fun e4 => cond (lim (v5.length + ([e4] : List Row).length)) (cond (decide (0 ≤ 1) && decide (1 ≤ (v0.length : Int))) (X_i_MergeSorted_0 fuel n (v0.drop 1) v1 (v5 ++ ([e4] : List Row))) none) none)
 (Option.bind (geti v1 0) fun e5 => cond (lim (v5.length + ([e5] : List Row).length)) (cond (decide (0 ≤ 1) && decide (1 ≤ (v1.length : Int))) (X_i_MergeSorted_0 fuel n v0 (v1.drop 1) (v5 ++ ([e5] : List Row))) none) none))
 (Option.bind (geti v1 0) fun e6 => cond (lim (v5.length + ([e6] : List Row).length)) (cond (decide (0 ≤ 1) && decide (1 ≤ (v1.length : Int))) (X_i_MergeSorted_0 fuel n v0 (v1.drop 1) (v5 ++ ([e6] : List Row))) none) none)))
 (cond (decide ((v1.length : Int) > 0))
 (cond (decide ((v1.length : Int) = 0))
 (Option.bind (geti v0 0) fun e7 => cond (lim (v5.length + ([e7] : List Row).length)) (cond (decide (0 ≤ 1) && decide (1 ≤ (v0.length : Int))) (X_i_MergeSorted_0 fuel n (v0.drop 1) v1 (v5 ++ ([e7] : List Row))) none) none)
 (cond (decide ((v0.length : Int) > 0))
 (Option.bind (geti v0 0) fun e8 => Option.bind (geti v1 0) fun e9 => cond (decide ((cmpR e8 e9) ≤ 0))
 (Option.bind (geti v0 0) fun e10 => cond (lim (v5.length + ([e10] : List Row).length)) (cond (decide (0 ≤ 1) && decide (1 ≤ (v0.length : Int))) (X_i_MergeSorted_0 fuel n (v0.drop 1) v1 (v5 ++ ([e10] : List Row))) none) none)
 (Option.bind (geti v1 0) fun e11 => cond (lim (v5.length + ([e11] : List Row).length)) (cond (decide (0 ≤ 1) && decide (1 ≤ (v1.length : Int))) (X_i_MergeSorted_0 fuel n v0 (v1.drop 1) (v5 ++ ([e11] : List Row))) none) none))
 (Option.bind (geti v1 0) fun e12 => cond (lim (v5.length + ([e12] : List Row).length)) (cond (decide (0 ≤ 1) && decide (1 ≤ (v1.length : Int))) (X_i_MergeSorted_0 fuel n v0 (v1.drop 1) (v5 ++ ([e12] : List Row))) none) none)))
 (some [(true, .sl .row v5)])) := by kernel_rfl
theorem lp_mi (fuel : Nat) : ∀ (s : Nat) (a b acc : List Row) (n : Nat), a.length + b.length ≤ s → s < n → acc.length + a.length + b.length < 17179869184 → X_i_MergeSorted_0 fuel n a b acc = some [(true, .sl .row (acc ++ mergeS a b))] := by
  intro s
  induction s with
  | zero =>
    intro a b acc n hs hn hl
    obtain ⟨k, rfl, -⟩ := bump hn
    obtain rfl : a = [] := List.length_eq_zero_iff.1 (by omega)
    obtain rfl : b = [] := List.length_eq_zero_iff.1 (by omega)
    rw [st_i_MergeSorted_0]; simp [mergeS]
  | succ s ih =>
    intro a b acc n hs hn hl
    obtain ⟨k, rfl, hk⟩ := bump hn
    have c1 : ∀ {α : Type} (x : α) (l : List α), (decide (0 ≤ 1) && decide (1 ≤ ((x :: l).length : Int))) = true := fun x l => by simp <;> omega
    have g0 : ∀ {α : Type} (x : α) (l : List α), geti (x :: l) 0 = some x := fun x l => rfl
    cases a with
    | nil =>
      cases b with
      | nil => rw [st_i_MergeSorted_0]; simp [mergeS]
      | cons y b =>
        simp only [List.length_cons, List.length_nil] at hs hl
        rw [st_i_MergeSorted_0, cond_false' (by simp), cond_true' (by simp <;> omega), cond_false' (by simp <;> omega), cond_false' (by simp), g0]
        simp only [Option.bind_some]
        rw [cond_true' (lim_ok (by simp <;> omega)), cond_true' (c1 _ _), List.drop_one, List.tail_cons, ih [] b (acc ++ [y]) k (by simp <;> omega) (by omega) (by simp <;> omega)]
        simp [mergeS]
    | cons x a =>
      simp only [List.length_cons] at hs hl
      rw [st_i_MergeSorted_0, cond_true' (by simp <;> omega)]
      cases b with
      | nil =>
        simp only [List.length_nil] at hs hl
        rw [cond_true' (by simp), g0]
        simp only [Option.bind_some]
        rw [cond_true' (lim_ok (by simp <;> omega)), cond_true' (c1 _ _), List.drop_one, List.tail_cons, ih a [] (acc ++ [x]) k (by simp <;> omega) (by omega) (by simp <;> omega)]
        cases a <;> simp [mergeS]
      | cons y b =>
        simp only [List.length_cons] at hs hl
        rw [cond_false' (by simp <;> omega), cond_true' (by simp <;> omega), g0, g0]
        simp only [Option.bind_some, cmpB_le]
        by_cases hc : leR x y
        · rw [cond_true' (by simpa using hc), cond_true' (lim_ok (by simp <;> omega)), cond_true' (c1 _ _), List.drop_one, List.tail_cons, ih a (y :: b) (acc ++ [x]) k (by simp <;> omega) (by omega) (by simp <;> omega)]
          rw [mergeS, if_pos hc]; simp
        · rw [cond_false' (by simpa using hc), cond_true' (lim_ok (by simp <;> omega)), cond_true' (c1 _ _), List.drop_one, List.tail_cons, ih (x :: a) b (acc ++ [y]) k (by simp <;> omega) (by omega) (by simp <;> omega)]
          rw [mergeS, if_neg hc]; simp
theorem run_i_MergeSorted (p0 p1 : List Row) (h : lil (p0.length + p1.length) = true) : runF (E_i_MergeSorted BIG) Try.f81 [.sl .row p0, .sl .row p1] = some [(true, .sl .row (mergeS p0 p1))] := by
  have hs := lil_iff.1 h
  rw [top_i_MergeSorted, lp_mi BIG (p0.length + p1.length) p0 p1 [] BIG (Nat.le_refl _) (lil_big hs) (by simpa using hs)]
  rfl
def F_i_MergeSorted : Ai.Fn := ⟨[(false, [.sl .row]), (false, [.sl .row])], [(false, 1)], false, fun ds => match ds with | [.sl .row p0, .sl .row p1] => lil (p0.length + p1.length) | _ => false, fun ds => match ds with | [.sl .row p0, .sl .row p1] => some [(true, .sl .row (mergeS p0 p1))] | _ => none⟩
theorem fg_i_MergeSorted : Try.prog.funcs[81]? = some Try.f81 := by kernel_rfl
theorem c_i_MergeSorted : Ctr Try.prog 81 F_i_MergeSorted := by
  refine ctr_of_run (code := Try.f81.body.getD .skip) mixed fg_i_MergeSorted (by kernel_rfl) (Nat.le_of_ble_eq_true (by kernel_rfl)) (Nat.le_of_ble_eq_true (by kernel_rfl)) fun ds out hd hr => ?_
  dsimp only [F_i_MergeSorted] at hd hr
  split at hd
  · simp only [Option.some.injEq] at hr
    subst hr
    exact ⟨E_i_MergeSorted BIG, tys_ok tysB_ok, FnsL.cons (fn_ok c_i_CompareRows) fg_i_CompareRows rfl rfl (FnsL.nil), rfl, by kernel_rfl, by kernel_rfl, run_i_MergeSorted _ _ hd⟩
  · cases hd

/- Valid runs. -/
def vRun (l : List Row) : Bool := !l.isEmpty && sortedB l && vRows l
theorem len0 {α : Type} (l : List α) : decide ((l.length : Int) = 0) = l.isEmpty := by cases l <;> simp <;> omega
theorem flat_mem {l : List (List Row)} {r : List Row} (h : r ∈ l) : r.length ≤ l.flatten.length := by
  induction l with
  | nil => simp at h
  | cons x l ih =>
    simp only [List.flatten_cons, List.length_append]
    rcases List.mem_cons.1 h with rfl | h
    · omega
    · have := ih h; omega
def E_s_AreValidRuns (fuel : Nat) : Env := ⟨tys, [(26, callFn F_s_AreValidRows), (64, callFn F_s_IsSorted)], [(0, ([(0, .p), (3, .p)], 35))], fuel, 35, 0⟩
noncomputable def X_s_AreValidRuns_0 (fuel : Nat) (n : Nat)  (v0 : List (List Row)) (v3 : Int) : Res := loopF (E_s_AreValidRuns fuel) Try.f63 [1, 0, 1] [] n ⟨upds (fun _ => cU) [(0, .av (.one (.d (.sl .run v0)))), (3, .av (.one (.d (.i .i64 v3))))], 35⟩
theorem top_s_AreValidRuns (fuel : Nat) (p0 : List (List Row)) : runF (E_s_AreValidRuns fuel) Try.f63 [.sl .run p0] =
 X_s_AreValidRuns_0 fuel fuel p0 0 := by kernel_rfl
theorem st_s_AreValidRuns_0 (fuel : Nat) (n : Nat)  (v0 : List (List Row)) (v3 : Int) : X_s_AreValidRuns_0 fuel (n + 1) v0 v3 =
 cond (decide (v3 < (v0.length : Int)))
 (Option.bind (geti v0 v3) fun e1 => cond (decide ((e1.length : Int) = 0))
 (some [(true, .b false)])
 (Option.bind (geti v0 v3) fun e2 => cond (lil e2.length) (cond (!(sortedB e2))
 (some [(true, .b false)])
 (Option.bind (geti v0 v3) fun e3 => cond (lil e3.length) (cond (!(vRows e3))
 (some [(true, .b false)])
 (X_s_AreValidRuns_0 fuel n v0 (IntKind.i64.wrap (v3 + 1)))) none)) none))
 (some [(true, .b true)]) := by kernel_rfl
noncomputable def R_s_AreValidRuns_0 (fuel : Nat) (v0 : List (List Row)) : List (List Row) → Int → Res
  | [], v3 => some [(true, .b true)]
  | e0 :: r, v3 => cond (decide ((e0.length : Int) = 0))
       (some [(true, .b false)])
       (cond (lil e0.length) (cond (!(sortedB e0))
       (some [(true, .b false)])
       (cond (lil e0.length) (cond (!(vRows e0))
       (some [(true, .b false)])
       (R_s_AreValidRuns_0 fuel v0 r (v3 + 1))) none)) none)
theorem lp_s_AreValidRuns_0 (fuel : Nat) (v0 : List (List Row)) (hl : v0.length < 1099511627776) : ∀ (suf pre : List (List Row)) (n : Nat) (v3 : Int), v0 = pre ++ suf → v3 = pre.length → suf.length < n → X_s_AreValidRuns_0 fuel n v0 v3 = R_s_AreValidRuns_0 fuel v0 suf v3
  | [], pre, n, v3, h, hi, hn => by
    obtain ⟨k, rfl, -⟩ := bump hn
    rw [st_s_AreValidRuns_0, cond_false' (at_end h hi)]
    rfl
  | e0 :: suf, pre, n, v3, h, hi, hn => by
    obtain ⟨k, rfl, hk⟩ := bump hn
    have ih := fun (_ : Unit) => lp_s_AreValidRuns_0 fuel v0 hl suf (pre ++ [e0]) k (v3 + 1)  (at_step h) (at_idx hi) hk
    rw [st_s_AreValidRuns_0, cond_true' (at_mid h hi)]
    simp only [at_get h hi, at_arr h hi, at_chk h hi, cond_true, Option.bind_some, at_next' h hi hl, ih ()]
    rfl
theorem R_rs (fuel : Nat) (L : List (List Row)) : ∀ (l : List (List Row)) (i : Int), (∀ r ∈ l, r.length < 17179869184) → R_s_AreValidRuns_0 fuel L l i = some [(true, .b (l.all vRun))]
  | [], i, _ => rfl
  | e :: l, i, h => by
    have he : lil e.length = true := lil_iff.2 (h e (by simp))
    rw [R_s_AreValidRuns_0, R_rs fuel L l _ fun r hr => h r (by simp [hr])]
    simp only [he, cond_true, len0, List.all_cons, vRun]
    cases e.isEmpty <;> cases sortedB e <;> cases vRows e <;> rfl
theorem run_s_AreValidRuns (p0 : List (List Row)) (h : lilRuns p0 = true) : runF (E_s_AreValidRuns BIG) Try.f63 [.sl .run p0] = some [(true, .b (p0.all vRun))] := by
  obtain ⟨hs, h2⟩ := lilRuns_iff.1 h
  rw [top_s_AreValidRuns, lp_s_AreValidRuns_0 BIG p0 (lil_small hs) p0 [] BIG 0 rfl rfl (lil_big hs), R_rs BIG p0 p0 0 fun r hr => by have := flat_mem hr; omega]
def F_s_AreValidRuns : Ai.Fn := ⟨[(false, [.sl .run])], [(false, 1)], false, fun ds => match ds with | [.sl .run p0] => lilRuns p0 | _ => false, fun ds => match ds with | [.sl .run p0] => some [(true, .b (p0.all vRun))] | _ => none⟩
theorem fg_s_AreValidRuns : Try.prog.funcs[63]? = some Try.f63 := by kernel_rfl
theorem c_s_AreValidRuns : Ctr Try.prog 63 F_s_AreValidRuns := by
  refine ctr_of_run (code := Try.f63.body.getD .skip) mixed fg_s_AreValidRuns (by kernel_rfl) (Nat.le_of_ble_eq_true (by kernel_rfl)) (Nat.le_of_ble_eq_true (by kernel_rfl)) fun ds out hd hr => ?_
  dsimp only [F_s_AreValidRuns] at hd hr
  split at hd
  · simp only [Option.some.injEq] at hr
    subst hr
    exact ⟨E_s_AreValidRuns BIG, tys_ok tysB_ok, FnsL.cons (fn_ok c_s_AreValidRows) fg_s_AreValidRows rfl rfl (FnsL.cons (fn_ok c_s_IsSorted) fg_s_IsSorted rfl rfl (FnsL.nil)), rfl, by kernel_rfl, by kernel_rfl, run_s_AreValidRuns _ hd⟩
  · cases hd
def E_i_AreValidRuns (fuel : Nat) : Env := ⟨tys, [(33, callFn F_i_AreValidRows), (75, callFn F_i_IsSorted)], [(0, ([(5, .p), (6, .p), (7, .p)], 28))], fuel, 28, 0⟩
noncomputable def X_i_AreValidRuns_0 (fuel : Nat) (n : Nat)  (v5 : List (List Row)) (v6 : Int) (v7 : Int) : Res := loopF (E_i_AreValidRuns fuel) Try.f74 [1, 0, 1] [] n ⟨upds (fun _ => cU) [(5, .av (.one (.d (.sl .run v5)))), (6, .av (.one (.d (.i .i64 v6)))), (7, .av (.one (.d (.i .i64 v7))))], 28⟩
theorem top_i_AreValidRuns (fuel : Nat) (p0 : List (List Row)) : runF (E_i_AreValidRuns fuel) Try.f74 [.sl .run p0] =
 X_i_AreValidRuns_0 fuel fuel p0 (p0.length : Int) 0 := by kernel_rfl
theorem st_i_AreValidRuns_0 (fuel : Nat) (n : Nat)  (v5 : List (List Row)) (v6 : Int) (v7 : Int) : X_i_AreValidRuns_0 fuel (n + 1) v5 v6 v7 =
 cond (decide (v7 < v6))
 (Option.bind (geti v5 v7) fun e1 => cond (decide ((e1.length : Int) = 0))
 (some [(true, .b false)])
 (cond (lil e1.length) (cond (!(sortedB e1))
 (some [(true, .b false)])
 (cond (lil e1.length) (cond (!(vRows e1))
 (some [(true, .b false)])
 (X_i_AreValidRuns_0 fuel n v5 v6 (IntKind.i64.wrap (v7 + 1)))) none)) none))
 (some [(true, .b true)]) := by kernel_rfl
noncomputable def R_i_AreValidRuns_0 (fuel : Nat) (v5 : List (List Row)) : List (List Row) → Int → Res
  | [], v7 => some [(true, .b true)]
  | e0 :: r, v7 => cond (decide ((e0.length : Int) = 0))
       (some [(true, .b false)])
       (cond (lil e0.length) (cond (!(sortedB e0))
       (some [(true, .b false)])
       (cond (lil e0.length) (cond (!(vRows e0))
       (some [(true, .b false)])
       (R_i_AreValidRuns_0 fuel v5 r (v7 + 1))) none)) none)
theorem lp_i_AreValidRuns_0 (fuel : Nat) (v5 : List (List Row)) (hl : v5.length < 1099511627776) : ∀ (suf pre : List (List Row)) (n : Nat) (v7 : Int), v5 = pre ++ suf → v7 = pre.length → suf.length < n → X_i_AreValidRuns_0 fuel n v5 (v5.length : Int) v7 = R_i_AreValidRuns_0 fuel v5 suf v7
  | [], pre, n, v7, h, hi, hn => by
    obtain ⟨k, rfl, -⟩ := bump hn
    rw [st_i_AreValidRuns_0, cond_false' (at_end h hi)]
    rfl
  | e0 :: suf, pre, n, v7, h, hi, hn => by
    obtain ⟨k, rfl, hk⟩ := bump hn
    have ih := fun (_ : Unit) => lp_i_AreValidRuns_0 fuel v5 hl suf (pre ++ [e0]) k (v7 + 1)  (at_step h) (at_idx hi) hk
    rw [st_i_AreValidRuns_0, cond_true' (at_mid h hi)]
    simp only [at_get h hi, at_arr h hi, at_chk h hi, cond_true, Option.bind_some, at_next' h hi hl, ih ()]
    rfl
theorem R_ri (fuel : Nat) (L : List (List Row)) : ∀ (l : List (List Row)) (i : Int), (∀ r ∈ l, r.length < 17179869184) → R_i_AreValidRuns_0 fuel L l i = some [(true, .b (l.all vRun))]
  | [], i, _ => rfl
  | e :: l, i, h => by
    have he : lil e.length = true := lil_iff.2 (h e (by simp))
    rw [R_i_AreValidRuns_0, R_ri fuel L l _ fun r hr => h r (by simp [hr])]
    simp only [he, cond_true, len0, List.all_cons, vRun]
    cases e.isEmpty <;> cases sortedB e <;> cases vRows e <;> rfl
theorem run_i_AreValidRuns (p0 : List (List Row)) (h : lilRuns p0 = true) : runF (E_i_AreValidRuns BIG) Try.f74 [.sl .run p0] = some [(true, .b (p0.all vRun))] := by
  obtain ⟨hs, h2⟩ := lilRuns_iff.1 h
  rw [top_i_AreValidRuns, lp_i_AreValidRuns_0 BIG p0 (lil_small hs) p0 [] BIG 0 rfl rfl (lil_big hs), R_ri BIG p0 p0 0 fun r hr => by have := flat_mem hr; omega]
def F_i_AreValidRuns : Ai.Fn := ⟨[(false, [.sl .run])], [(false, 1)], false, fun ds => match ds with | [.sl .run p0] => lilRuns p0 | _ => false, fun ds => match ds with | [.sl .run p0] => some [(true, .b (p0.all vRun))] | _ => none⟩
theorem fg_i_AreValidRuns : Try.prog.funcs[74]? = some Try.f74 := by kernel_rfl
theorem c_i_AreValidRuns : Ctr Try.prog 74 F_i_AreValidRuns := by
  refine ctr_of_run (code := Try.f74.body.getD .skip) mixed fg_i_AreValidRuns (by kernel_rfl) (Nat.le_of_ble_eq_true (by kernel_rfl)) (Nat.le_of_ble_eq_true (by kernel_rfl)) fun ds out hd hr => ?_
  dsimp only [F_i_AreValidRuns] at hd hr
  split at hd
  · simp only [Option.some.injEq] at hr
    subst hr
    exact ⟨E_i_AreValidRuns BIG, tys_ok tysB_ok, FnsL.cons (fn_ok c_i_AreValidRows) fg_i_AreValidRows rfl rfl (FnsL.cons (fn_ok c_i_IsSorted) fg_i_IsSorted rfl rfl (FnsL.nil)), rfl, by kernel_rfl, by kernel_rfl, run_i_AreValidRuns _ hd⟩
  · cases hd
end Go.Proofs.Ytfjdfbdiichhdaa
