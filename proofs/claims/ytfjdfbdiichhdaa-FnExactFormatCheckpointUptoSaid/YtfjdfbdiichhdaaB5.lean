/-
  The statements' own helpers over rows, runs and sorters: sizes, copies, equality. Conditions: none.
-/
import Derived.Test.YtfjdfbdiichhdaaB4
namespace Go.Proofs.Ytfjdfbdiichhdaa
open Go Ai
set_option maxRecDepth 100000

/- Sizes. -/
def sz1 (n : Nat) (left : Int) : Int := if left - n < 0 then -1 else left - n
def szIn (left : Int) : Bool := decide (-1 ≤ left ∧ left ≤ 1048576)
theorem szIn_iff {left : Int} : szIn left = true ↔ -1 ≤ left ∧ left ≤ 1048576 := by simp [szIn]
theorem sz1_in {n : Nat} {left : Int} (h : szIn left = true) : szIn (sz1 n left) = true := by
  rw [szIn_iff] at *
  unfold sz1; split <;> omega
theorem szw {n : Nat} {left : Int} (h : (lil n && szIn left) = true) : IntKind.i64.wrap (left - n) = left - n := by
  obtain ⟨h1, h2⟩ := (Bool.and_eq_true _ _).mp h
  have h1 := lil_iff.1 h1
  have h2 := szIn_iff.1 h2
  rw [wrap64 (by omega) (by omega)]
theorem pushI (c : Bool) (x y : Int) : cond c (some [(true, DV.i .i64 x)]) (some [(true, DV.i .i64 y)]) = some [(true, DV.i .i64 (cond c x y))] := by cases c <;> rfl
theorem someI {x y : Int} (h : x = y) : (some [(true, DV.i .i64 x)] : Option (List (Bool × DV))) = some [(true, DV.i .i64 y)] := by rw [h]
def E_w_szRowS (fuel : Nat) : Env := ⟨tys, [], [], fuel, 12, 0⟩
theorem top_w_szRowS (fuel : Nat) (p0 : List Row) (p1 : Int) : runF (E_w_szRowS fuel) Try.f24 [.sl .row p0, .i .i64 p1] =
 cond (decide ((IntKind.i64.wrap (p1 - (p0.length : Int))) < 0))
 (some [(true, .i .i64 (-1))])
 (some [(true, .i .i64 (IntKind.i64.wrap (p1 - (p0.length : Int))))]) := by kernel_rfl
theorem run_w_szRowS (p0 : List Row) (p1 : Int) (h : (lil p0.length && szIn p1) = true) : runF (E_w_szRowS BIG) Try.f24 [.sl .row p0, .i .i64 p1] = some [(true, .i .i64 (sz1 p0.length p1))] := by
  rw [top_w_szRowS, szw h, pushI]
  refine someI ?_
  unfold sz1; simp only [Bool.cond_eq_ite, decide_eq_true_eq]
def F_w_szRowS : Ai.Fn := ⟨[(false, [.sl .row]), (false, [.sc])], [(false, 1)], false, fun ds => match ds with | [.sl .row p0, .i .i64 p1] => lil p0.length && szIn p1 | _ => false, fun ds => match ds with | [.sl .row p0, .i .i64 p1] => some [(true, .i .i64 (sz1 p0.length p1))] | _ => none⟩
theorem fg_w_szRowS : Try.prog.funcs[24]? = some Try.f24 := by kernel_rfl
theorem c_w_szRowS : Ctr Try.prog 24 F_w_szRowS := by
  refine ctr_of_run (code := Try.f24.body.getD .skip) mixed fg_w_szRowS (by kernel_rfl) (Nat.le_of_ble_eq_true (by kernel_rfl)) (Nat.le_of_ble_eq_true (by kernel_rfl)) fun ds out hd hr => ?_
  dsimp only [F_w_szRowS] at hd hr
  split at hd
  · simp only [Option.some.injEq] at hr
    subst hr
    exact ⟨E_w_szRowS BIG, tys_ok tysB_ok, FnsL.nil, rfl, by kernel_rfl, by kernel_rfl, run_w_szRowS _ _ hd⟩
  · cases hd
def E_w_szRun (fuel : Nat) : Env := ⟨tys, [(24, callFn F_w_szRowS)], [], fuel, 12, 0⟩
theorem top_w_szRun (fuel : Nat) (p0_0 : List Row) (p1 : Int) : runF (E_w_szRun fuel) Try.f116 [.sl .row p0_0, .i .i64 p1] =
 cond (lil p0_0.length && szIn p1) (cond (decide ((sz1 p0_0.length p1) < 0))
 (some [(true, .i .i64 (-1))])
 (some [(true, .i .i64 (sz1 p0_0.length p1))])) none := by kernel_rfl
theorem run_w_szRun (p0_0 : List Row) (p1 : Int) (h : (lil p0_0.length && szIn p1) = true) : runF (E_w_szRun BIG) Try.f116 [.sl .row p0_0, .i .i64 p1] = some [(true, .i .i64 (sz1 p0_0.length p1))] := by
  rw [top_w_szRun, cond_true' h, pushI]
  refine someI ?_
  unfold sz1; simp only [Bool.cond_eq_ite, decide_eq_true_eq]
  split
  · split <;> omega
  · rfl
def F_w_szRun : Ai.Fn := ⟨[(true, [.sl .row]), (false, [.sc])], [(false, 1)], false, fun ds => match ds with | [.sl .row p0_0, .i .i64 p1] => lil p0_0.length && szIn p1 | _ => false, fun ds => match ds with | [.sl .row p0_0, .i .i64 p1] => some [(true, .i .i64 (sz1 p0_0.length p1))] | _ => none⟩
theorem fg_w_szRun : Try.prog.funcs[116]? = some Try.f116 := by kernel_rfl
theorem c_w_szRun : Ctr Try.prog 116 F_w_szRun := by
  refine ctr_of_run (code := Try.f116.body.getD .skip) mixed fg_w_szRun (by kernel_rfl) (Nat.le_of_ble_eq_true (by kernel_rfl)) (Nat.le_of_ble_eq_true (by kernel_rfl)) fun ds out hd hr => ?_
  dsimp only [F_w_szRun] at hd hr
  split at hd
  · simp only [Option.some.injEq] at hr
    subst hr
    exact ⟨E_w_szRun BIG, tys_ok tysB_ok, FnsL.cons (fn_ok c_w_szRowS) fg_w_szRowS rfl rfl (FnsL.nil), rfl, by kernel_rfl, by kernel_rfl, run_w_szRun _ _ hd⟩
  · cases hd
def szRunS : List (List Row) → Int → Int
  | [], left => left
  | r :: l, left => if sz1 r.length left < 0 then -1 else szRunS l (sz1 r.length left)
def szRuns (l : List (List Row)) (left : Int) : Int := if sz1 l.length left < 0 then -1 else szRunS l (sz1 l.length left)
theorem szRunS_in : ∀ {l : List (List Row)} {left : Int}, szIn left = true → szIn (szRunS l left) = true
  | [], _, h => h
  | r :: l, left, h => by
    unfold szRunS; split
    · rfl
    · exact szRunS_in (sz1_in h)
def E_w_szRunS (fuel : Nat) : Env := ⟨tys, [(116, callFn F_w_szRun)], [(0, ([(0, .p), (1, .p), (5, .p)], 27))], fuel, 27, 0⟩
noncomputable def X_w_szRunS_0 (fuel : Nat) (n : Nat)  (v0 : List (List Row)) (v1 : Int) (v5 : Int) : Res := loopF (E_w_szRunS fuel) Try.f61 [1, 1, 1, 0, 1] [] n ⟨upds (fun _ => cU) [(0, .av (.one (.d (.sl .run v0)))), (1, .av (.one (.d (.i .i64 v1)))), (5, .av (.one (.d (.i .i64 v5))))], 27⟩
theorem top_w_szRunS (fuel : Nat) (p0 : List (List Row)) (p1 : Int) : runF (E_w_szRunS fuel) Try.f61 [.sl .run p0, .i .i64 p1] =
 cond (decide ((IntKind.i64.wrap (p1 - (p0.length : Int))) < 0))
 (some [(true, .i .i64 (-1))])
 (X_w_szRunS_0 fuel fuel p0 (IntKind.i64.wrap (p1 - (p0.length : Int))) 0) := by kernel_rfl
theorem st_w_szRunS_0 (fuel : Nat) (n : Nat)  (v0 : List (List Row)) (v1 : Int) (v5 : Int) : X_w_szRunS_0 fuel (n + 1) v0 v1 v5 =
 cond (decide (v5 < (v0.length : Int)))
 (Option.bind (geti v0 v5) fun e1 => cond (lil e1.length && szIn v1) (cond (decide ((sz1 e1.length v1) < 0))
 (some [(true, .i .i64 (-1))])
 (X_w_szRunS_0 fuel n v0 (sz1 e1.length v1) (IntKind.i64.wrap (v5 + 1)))) none)
 (some [(true, .i .i64 v1)]) := by kernel_rfl
noncomputable def R_w_szRunS_0 (fuel : Nat) (v0 : List (List Row)) : List (List Row) → Int → Int → Res
  | [], v5, v1 => some [(true, .i .i64 v1)]
  | e0 :: r, v5, v1 => cond (lil e0.length && szIn v1) (cond (decide ((sz1 e0.length v1) < 0))
       (some [(true, .i .i64 (-1))])
       (R_w_szRunS_0 fuel v0 r (v5 + 1) (sz1 e0.length v1))) none
theorem lp_w_szRunS_0 (fuel : Nat) (v0 : List (List Row)) (hl : v0.length < 1099511627776) : ∀ (suf pre : List (List Row)) (n : Nat) (v5 : Int) (v1 : Int), v0 = pre ++ suf → v5 = pre.length → suf.length < n → X_w_szRunS_0 fuel n v0 v1 v5 = R_w_szRunS_0 fuel v0 suf v5 v1
  | [], pre, n, v5, v1, h, hi, hn => by
    obtain ⟨k, rfl, -⟩ := bump hn
    rw [st_w_szRunS_0, cond_false' (at_end h hi)]
    rfl
  | e0 :: suf, pre, n, v5, v1, h, hi, hn => by
    obtain ⟨k, rfl, hk⟩ := bump hn
    have ih := fun (q_v1 : Int) => lp_w_szRunS_0 fuel v0 hl suf (pre ++ [e0]) k (v5 + 1) q_v1 (at_step h) (at_idx hi) hk
    rw [st_w_szRunS_0, cond_true' (at_mid h hi)]
    simp only [at_get h hi, at_arr h hi, at_chk h hi, cond_true, Option.bind_some, at_next' h hi hl, ih]
    rfl
theorem S_w_szRunS (fuel : Nat) (L : List (List Row)) : ∀ (l : List (List Row)) (i left : Int), (∀ r ∈ l, lil r.length = true) → szIn left = true → R_w_szRunS_0 fuel L l i left = some [(true, .i .i64 (szRunS l left))]
  | [], i, left, _, _ => rfl
  | r :: l, i, left, h, hl => by
    rw [R_w_szRunS_0, S_w_szRunS fuel L l _ _ (fun x hx => h x (by simp [hx])) (sz1_in hl)]
    simp only [h r (by simp), hl, Bool.and_self, cond_true, pushI]
    refine someI ?_
    simp only [szRunS, Bool.cond_eq_ite, decide_eq_true_eq]
theorem run_w_szRunS (p0 : List (List Row)) (p1 : Int) (h : (lilRuns p0 && szIn p1) = true) : runF (E_w_szRunS BIG) Try.f61 [.sl .run p0, .i .i64 p1] = some [(true, .i .i64 (szRuns p0 p1))] := by
  obtain ⟨h1, h2⟩ := (Bool.and_eq_true _ _).mp h
  obtain ⟨hs, h3⟩ := lilRuns_iff.1 h1
  have hw : IntKind.i64.wrap (p1 - (p0.length : Int)) = p1 - p0.length := szw (by rw [lil_iff.2 hs, h2]; rfl)
  rw [top_w_szRunS, hw]
  by_cases hc : p1 - (p0.length : Int) < 0
  · rw [cond_true' (by simpa using hc)]; simp [szRuns, sz1, hc]
  · have e : p1 - (p0.length : Int) = sz1 p0.length p1 := by simp [sz1, hc]
    rw [cond_false' (by simpa using hc), e, lp_w_szRunS_0 BIG p0 (lil_small hs) p0 [] BIG 0 _ rfl rfl (lil_big hs), S_w_szRunS BIG p0 p0 0 _ (fun r hr => lil_iff.2 (by have := flat_mem hr; omega)) (sz1_in h2)]
    refine someI ?_
    unfold szRuns; rw [if_neg (by rw [← e]; exact hc)]
def F_w_szRunS : Ai.Fn := ⟨[(false, [.sl .run]), (false, [.sc])], [(false, 1)], false, fun ds => match ds with | [.sl .run p0, .i .i64 p1] => lilRuns p0 && szIn p1 | _ => false, fun ds => match ds with | [.sl .run p0, .i .i64 p1] => some [(true, .i .i64 (szRuns p0 p1))] | _ => none⟩
theorem fg_w_szRunS : Try.prog.funcs[61]? = some Try.f61 := by kernel_rfl
theorem c_w_szRunS : Ctr Try.prog 61 F_w_szRunS := by
  refine ctr_of_run (code := Try.f61.body.getD .skip) mixed fg_w_szRunS (by kernel_rfl) (Nat.le_of_ble_eq_true (by kernel_rfl)) (Nat.le_of_ble_eq_true (by kernel_rfl)) fun ds out hd hr => ?_
  dsimp only [F_w_szRunS] at hd hr
  split at hd
  · simp only [Option.some.injEq] at hr
    subst hr
    exact ⟨E_w_szRunS BIG, tys_ok tysB_ok, FnsL.cons (fn_ok c_w_szRun) fg_w_szRun rfl rfl (FnsL.nil), rfl, by kernel_rfl, by kernel_rfl, run_w_szRunS _ _ hd⟩
  · cases hd
theorem szRuns_in {l : List (List Row)} {left : Int} (h : szIn left = true) : szIn (szRuns l left) = true := by
  unfold szRuns; split
  · rfl
  · exact szRunS_in (sz1_in h)
def szSrt (s : Srt) (left : Int) : Int :=
  if sz1 s.input.length left < 0 then -1 else if sz1 s.heap.length (sz1 s.input.length left) < 0 then -1 else if sz1 s.defd.length (sz1 s.heap.length (sz1 s.input.length left)) < 0 then -1 else
  if sz1 s.outp.length (sz1 s.defd.length (sz1 s.heap.length (sz1 s.input.length left))) < 0 then -1 else
  if szRuns s.runs (sz1 s.outp.length (sz1 s.defd.length (sz1 s.heap.length (sz1 s.input.length left)))) < 0 then -1 else szRuns s.runs (sz1 s.outp.length (sz1 s.defd.length (sz1 s.heap.length (sz1 s.input.length left))))
theorem szSrt_in {s : Srt} {left : Int} (h : szIn left = true) : szIn (szSrt s left) = true := by
  unfold szSrt
  (repeat' split) <;> first | rfl | exact szRuns_in (sz1_in (sz1_in (sz1_in (sz1_in h))))
def E_w_szSorter (fuel : Nat) : Env := ⟨tys, [(24, callFn F_w_szRowS), (61, callFn F_w_szRunS)], [], fuel, 36, 0⟩
theorem top_w_szSorter (fuel : Nat) (p0_0 : List Row) (p0_1 : Int) (p0_2 : List Row) (p0_3 : List Row) (p0_4 : List Row) (p0_5 : List (List Row)) (p0_6 : Int) (p0_7 : Int) (p0_8 : Int) (p0_9 : Int) (p1 : Int) : runF (E_w_szSorter fuel) Try.f23 [.sl .row p0_0, .i .i64 p0_1, .sl .row p0_2, .sl .row p0_3, .sl .row p0_4, .sl .run p0_5, .i .i64 p0_6, .i .i64 p0_7, .i .i64 p0_8, .i .i64 p0_9, .i .i64 p1] =
 cond (lil p0_0.length && szIn p1) (cond (decide ((sz1 p0_0.length p1) < 0))
 (some [(true, .i .i64 (-1))])
 (cond (lil p0_2.length && szIn (sz1 p0_0.length p1)) (cond (decide ((sz1 p0_2.length (sz1 p0_0.length p1)) < 0))
 (some [(true, .i .i64 (-1))])
 (cond (lil p0_3.length && szIn (sz1 p0_2.length (sz1 p0_0.length p1))) (cond (decide ((sz1 p0_3.length (sz1 p0_2.length (sz1 p0_0.length p1))) < 0))
 (some [(true, .i .i64 (-1))])
 (cond (lil p0_4.length && szIn (sz1 p0_3.length (sz1 p0_2.length (sz1 p0_0.length p1)))) (cond (decide ((sz1 p0_4.length (sz1 p0_3.length (sz1 p0_2.length (sz1 p0_0.length p1)))) < 0))
 (some [(true, .i .i64 (-1))])
 (cond (lilRuns p0_5 && szIn (sz1 p0_4.length (sz1 p0_3.length (sz1 p0_2.length (sz1 p0_0.length p1))))) (cond (decide ((szRuns p0_5 (sz1 p0_4.length (sz1 p0_3.length (sz1 p0_2.length (sz1 p0_0.length p1))))) < 0))
 (some [(true, .i .i64 (-1))])
 (some [(true, .i .i64 (szRuns p0_5 (sz1 p0_4.length (sz1 p0_3.length (sz1 p0_2.length (sz1 p0_0.length p1))))))])) none)) none)) none)) none)) none := by kernel_rfl
theorem run_w_szSorter (q0 : List Row) (q1 : Int) (q2 q3 q4 : List Row) (q5 : List (List Row)) (q6 q7 q8 q9 p1 : Int) (h : (lilS ⟨q0, q1, q2, q3, q4, q5, q6, q7, q8, q9⟩ && szIn p1) = true) : runF (E_w_szSorter BIG) Try.f23 [.sl .row q0, .i .i64 q1, .sl .row q2, .sl .row q3, .sl .row q4, .sl .run q5, .i .i64 q6, .i .i64 q7, .i .i64 q8, .i .i64 q9, .i .i64 p1] = some [(true, .i .i64 (szSrt ⟨q0, q1, q2, q3, q4, q5, q6, q7, q8, q9⟩ p1))] := by
  obtain ⟨h1, h2⟩ := (Bool.and_eq_true _ _).mp h
  obtain ⟨l1, l2, l3, l4, l5, l6⟩ := lilS_iff.1 h1
  rw [top_w_szSorter]
  simp only [lil_iff.2 l1, lil_iff.2 l2, lil_iff.2 l3, lil_iff.2 l4, lilRuns_iff.2 ⟨l5, l6⟩, h2, sz1_in h2, sz1_in (sz1_in h2), sz1_in (sz1_in (sz1_in h2)), sz1_in (sz1_in (sz1_in (sz1_in h2))), Bool.and_self, cond_true, pushI]
  refine someI ?_
  simp only [szSrt, Bool.cond_eq_ite, decide_eq_true_eq]
def F_w_szSorter : Ai.Fn := ⟨[(true, [.sl .row, .sc, .sl .row, .sl .row, .sl .row, .sl .run, .sc, .sc, .sc, .sc]), (false, [.sc])], [(false, 1)], false, fun ds => match ds with | [.sl .row p0_0, .i .i64 p0_1, .sl .row p0_2, .sl .row p0_3, .sl .row p0_4, .sl .run p0_5, .i .i64 p0_6, .i .i64 p0_7, .i .i64 p0_8, .i .i64 p0_9, .i .i64 p1] => lilS ⟨p0_0, p0_1, p0_2, p0_3, p0_4, p0_5, p0_6, p0_7, p0_8, p0_9⟩ && szIn p1 | _ => false, fun ds => match ds with | [.sl .row p0_0, .i .i64 p0_1, .sl .row p0_2, .sl .row p0_3, .sl .row p0_4, .sl .run p0_5, .i .i64 p0_6, .i .i64 p0_7, .i .i64 p0_8, .i .i64 p0_9, .i .i64 p1] => some [(true, .i .i64 (szSrt ⟨p0_0, p0_1, p0_2, p0_3, p0_4, p0_5, p0_6, p0_7, p0_8, p0_9⟩ p1))] | _ => none⟩
theorem fg_w_szSorter : Try.prog.funcs[23]? = some Try.f23 := by kernel_rfl
theorem c_w_szSorter : Ctr Try.prog 23 F_w_szSorter := by
  refine ctr_of_run (code := Try.f23.body.getD .skip) mixed fg_w_szSorter (by kernel_rfl) (Nat.le_of_ble_eq_true (by kernel_rfl)) (Nat.le_of_ble_eq_true (by kernel_rfl)) fun ds out hd hr => ?_
  dsimp only [F_w_szSorter] at hd hr
  split at hd
  · simp only [Option.some.injEq] at hr
    subst hr
    exact ⟨E_w_szSorter BIG, tys_ok tysB_ok, FnsL.cons (fn_ok c_w_szRowS) fg_w_szRowS rfl rfl (FnsL.cons (fn_ok c_w_szRunS) fg_w_szRunS rfl rfl (FnsL.nil)), rfl, by kernel_rfl, by kernel_rfl, run_w_szSorter _ _ _ _ _ _ _ _ _ _ _ hd⟩
  · cases hd

/- Copies. -/
/- w_toRow -/
def E_w_toRow (fuel : Nat) : Env := ⟨tys, [], [], fuel, 14, 0⟩
theorem top_w_toRow (fuel : Nat) (p0_0 : Int) (p0_1 : Int) (p0_2 : Int) : runF (E_w_toRow fuel) Try.f72 [.i .i64 p0_0, .i .i64 p0_1, .i .i64 p0_2] =
 some [(true, .i .i64 p0_0), (true, .i .i64 p0_1), (true, .i .i64 p0_2)] := by kernel_rfl
def d_w_toRow (p0_0 : Int) (p0_1 : Int) (p0_2 : Int) : Bool := true
def r_w_toRow_0 (p0_0 : Int) (p0_1 : Int) (p0_2 : Int) : Int := p0_0
def r_w_toRow_1 (p0_0 : Int) (p0_1 : Int) (p0_2 : Int) : Int := p0_1
def r_w_toRow_2 (p0_0 : Int) (p0_1 : Int) (p0_2 : Int) : Int := p0_2
def F_w_toRow : Ai.Fn := ⟨[(true, [.sc, .sc, .sc])], [(true, 3)], false, fun ds => match ds with | [.i .i64 p0_0, .i .i64 p0_1, .i .i64 p0_2] => d_w_toRow p0_0 p0_1 p0_2 | _ => false, fun ds => match ds with | [.i .i64 p0_0, .i .i64 p0_1, .i .i64 p0_2] => some [(true, .i .i64 (r_w_toRow_0 p0_0 p0_1 p0_2)), (true, .i .i64 (r_w_toRow_1 p0_0 p0_1 p0_2)), (true, .i .i64 (r_w_toRow_2 p0_0 p0_1 p0_2))] | _ => none⟩
theorem run_w_toRow (p0_0 : Int) (p0_1 : Int) (p0_2 : Int) (h : d_w_toRow p0_0 p0_1 p0_2 = true) : runF (E_w_toRow BIG) Try.f72 [.i .i64 p0_0, .i .i64 p0_1, .i .i64 p0_2] = some [(true, .i .i64 (r_w_toRow_0 p0_0 p0_1 p0_2)), (true, .i .i64 (r_w_toRow_1 p0_0 p0_1 p0_2)), (true, .i .i64 (r_w_toRow_2 p0_0 p0_1 p0_2))] := by
  rw [top_w_toRow]
  revert h
  unfold d_w_toRow r_w_toRow_0 r_w_toRow_1 r_w_toRow_2
  first | (intro _; rfl) | (simp only [Bool.cond_eq_ite]; (repeat' split) <;> simp_all)
theorem fg_w_toRow : Try.prog.funcs[72]? = some Try.f72 := by kernel_rfl
theorem c_w_toRow : Ctr Try.prog 72 F_w_toRow := by
  refine ctr_of_run (code := Try.f72.body.getD .skip) mixed fg_w_toRow (by kernel_rfl) (Nat.le_of_ble_eq_true (by kernel_rfl)) (Nat.le_of_ble_eq_true (by kernel_rfl)) fun ds out hd hr => ?_
  dsimp only [F_w_toRow] at hd hr
  split at hd
  · simp only [Option.some.injEq] at hr
    subst hr
    exact ⟨E_w_toRow BIG, tys_ok tysB_ok, FnsL.nil, rfl, by kernel_rfl, by kernel_rfl, run_w_toRow _ _ _ hd⟩
  · cases hd

def E_w_toRowS (fuel : Nat) : Env := ⟨tys, [(72, callFn F_w_toRow)], [(0, ([(0, .p), (3, .a .row 23), (4, .p)], 24))], fuel, 23, 0⟩
noncomputable def X_w_toRowS_0 (fuel : Nat) (n : Nat)  (v0 : List Row) (v3 : List Row) (v4 : Int) : Res := loopF (E_w_toRowS fuel) Try.f31 [1, 1, 0, 1] [] n ⟨upds (fun _ => cU) [(0, .av (.one (.d (.sl .row v0)))), (3, .av (.one (.ls 23 0 none))), (23, .arr .row true v3), (4, .av (.one (.d (.i .i64 v4))))], 24⟩
theorem top_w_toRowS (fuel : Nat) (p0 : List Row) : runF (E_w_toRowS fuel) Try.f31 [.sl .row p0] =
 cond (decide (0 ≤ (p0.length : Int)) && decide ((p0.length : Int) ≤ (p0.length : Int)) && lim ((p0.length : Int).toNat)) (X_w_toRowS_0 fuel fuel p0 (List.replicate ((p0.length : Int).toNat) (⟨0, 0, 0⟩ : Row)) 0) none := by kernel_rfl
theorem st_w_toRowS_0 (fuel : Nat) (n : Nat)  (v0 : List Row) (v3 : List Row) (v4 : Int) : X_w_toRowS_0 fuel (n + 1) v0 v3 v4 =
 cond (decide (v4 < (v0.length : Int)))
 (Option.bind (geti v0 v4) fun e1 => cond (decide (0 ≤ v4) && decide (v4.toNat < v3.length)) (Option.bind (v3[0 + v4.toNat]?) fun e2 => X_w_toRowS_0 fuel n v0 (v3.set (0 + v4.toNat) (e1 : Row)) (IntKind.i64.wrap (v4 + 1))) none)
 (some [(true, .sl .row v3)]) := by kernel_rfl
noncomputable def R_w_toRowS_0 (fuel : Nat) (v0 : List Row) : List Row → Int → List Row → Res
  | [], v4, v3 => some [(true, .sl .row v3)]
  | e0 :: r, v4, v3 => cond (decide (0 ≤ v4) && decide (v4.toNat < v3.length)) (Option.bind (v3[0 + v4.toNat]?) fun e2 => R_w_toRowS_0 fuel v0 r (v4 + 1) (v3.set (0 + v4.toNat) (e0 : Row))) none
theorem lp_w_toRowS_0 (fuel : Nat) (v0 : List Row) (hl : v0.length < 1099511627776) : ∀ (suf pre : List Row) (n : Nat) (v4 : Int) (v3 : List Row), v0 = pre ++ suf → v4 = pre.length → suf.length < n → X_w_toRowS_0 fuel n v0 v3 v4 = R_w_toRowS_0 fuel v0 suf v4 v3
  | [], pre, n, v4, v3, h, hi, hn => by
    obtain ⟨k, rfl, -⟩ := bump hn
    rw [st_w_toRowS_0, cond_false' (at_end h hi)]
    rfl
  | e0 :: suf, pre, n, v4, v3, h, hi, hn => by
    obtain ⟨k, rfl, hk⟩ := bump hn
    have ih := fun (q_v3 : List Row) => lp_w_toRowS_0 fuel v0 hl suf (pre ++ [e0]) k (v4 + 1) q_v3 (at_step h) (at_idx hi) hk
    rw [st_w_toRowS_0, cond_true' (at_mid h hi)]
    simp only [at_get h hi, at_arr h hi, at_chk h hi, cond_true, Option.bind_some, at_next' h hi hl, ih]
    rfl
theorem T_w_toRowS (fuel : Nat) (L : List Row) : ∀ (l tl pre : List Row) (i : Int), (∀ e ∈ l, (true) = true) → l.length = tl.length → i = pre.length → R_w_toRowS_0 fuel L l i (pre ++ tl) = some [(true, .sl .row (pre ++ l))]
  | [], [], pre, i, _, _, _ => rfl
  | e :: l, t :: tl, pre, i, h, hl, hi => by
    have he : (true) = true := h e (by simp)
    have ih := T_w_toRowS fuel L l tl (pre ++ [e]) (i + 1) (fun x hx => h x (by simp [hx])) (by simpa using hl) (at_idx hi)
    rw [R_w_toRowS_0]
    simp only [he, cond_true, at_chk (pre := pre) (e := t) (suf := tl) rfl hi, at_arr (pre := pre) (e := t) (suf := tl) rfl hi, Option.bind_some]
    rw [set_app (by omega)]
    simp only [List.append_assoc, List.singleton_append] at ih
    exact ih
  | [], _ :: _, _, _, _, h, _ => by simp at h
  | _ :: _, [], _, _, _, h, _ => by simp at h
theorem run_w_toRowS (p0 : List Row) (h : (lil p0.length && p0.all fun e => true) = true) : runF (E_w_toRowS BIG) Try.f31 [.sl .row p0] = some [(true, .sl .row p0)] := by
  obtain ⟨h1, h2⟩ := (Bool.and_eq_true _ _).mp h
  have hs := lil_iff.1 h1
  rw [top_w_toRowS, cond_true' (by simp [lil_lim hs]), lp_w_toRowS_0 BIG p0 (lil_small hs) p0 [] BIG 0 _ rfl rfl (lil_big hs)]
  exact T_w_toRowS BIG p0 p0 _ [] 0 (List.all_eq_true.1 h2) (by simp) rfl
def F_w_toRowS : Ai.Fn := ⟨[(false, [.sl .row])], [(false, 1)], false, fun ds => match ds with | [.sl .row p0] => (lil p0.length && p0.all fun e => true) | _ => false, fun ds => match ds with | [.sl .row p0] => some [(true, .sl .row (p0))] | _ => none⟩
theorem fg_w_toRowS : Try.prog.funcs[31]? = some Try.f31 := by kernel_rfl
theorem c_w_toRowS : Ctr Try.prog 31 F_w_toRowS := by
  refine ctr_of_run (code := Try.f31.body.getD .skip) mixed fg_w_toRowS (by kernel_rfl) (Nat.le_of_ble_eq_true (by kernel_rfl)) (Nat.le_of_ble_eq_true (by kernel_rfl)) fun ds out hd hr => ?_
  dsimp only [F_w_toRowS] at hd hr
  split at hd
  · simp only [Option.some.injEq] at hr
    subst hr
    exact ⟨E_w_toRowS BIG, tys_ok tysB_ok, FnsL.cons (fn_ok c_w_toRow) fg_w_toRow rfl rfl (FnsL.nil), rfl, by kernel_rfl, by kernel_rfl, run_w_toRowS _ hd⟩
  · cases hd
def E_w_toRun (fuel : Nat) : Env := ⟨tys, [(31, callFn F_w_toRowS)], [], fuel, 9, 0⟩
theorem top_w_toRun (fuel : Nat) (p0_0 : List Row) : runF (E_w_toRun fuel) Try.f119 [.sl .row p0_0] =
 cond (lil p0_0.length && p0_0.all fun e => true) (some [(true, .sl .row p0_0)]) none := by kernel_rfl
theorem run_w_toRun (p0_0 : List Row) (h : lil p0_0.length = true) : runF (E_w_toRun BIG) Try.f119 [.sl .row p0_0] = some [(true, .sl .row p0_0)] := by
  rw [top_w_toRun, cond_true' (by simp [h])]
def F_w_toRun : Ai.Fn := ⟨[(true, [.sl .row])], [(true, 1)], false, fun ds => match ds with | [.sl .row p0_0] => lil p0_0.length | _ => false, fun ds => match ds with | [.sl .row p0_0] => some [(true, .sl .row (p0_0))] | _ => none⟩
theorem fg_w_toRun : Try.prog.funcs[119]? = some Try.f119 := by kernel_rfl
theorem c_w_toRun : Ctr Try.prog 119 F_w_toRun := by
  refine ctr_of_run (code := Try.f119.body.getD .skip) mixed fg_w_toRun (by kernel_rfl) (Nat.le_of_ble_eq_true (by kernel_rfl)) (Nat.le_of_ble_eq_true (by kernel_rfl)) fun ds out hd hr => ?_
  dsimp only [F_w_toRun] at hd hr
  split at hd
  · simp only [Option.some.injEq] at hr
    subst hr
    exact ⟨E_w_toRun BIG, tys_ok tysB_ok, FnsL.cons (fn_ok c_w_toRowS) fg_w_toRowS rfl rfl (FnsL.nil), rfl, by kernel_rfl, by kernel_rfl, run_w_toRun _ hd⟩
  · cases hd
def E_w_toRunS (fuel : Nat) : Env := ⟨tys, [(119, callFn F_w_toRun)], [(0, ([(0, .p), (3, .a .run 23), (4, .p)], 24))], fuel, 23, 0⟩
noncomputable def X_w_toRunS_0 (fuel : Nat) (n : Nat)  (v0 : List (List Row)) (v3 : List (List Row)) (v4 : Int) : Res := loopF (E_w_toRunS fuel) Try.f71 [1, 1, 0, 1] [] n ⟨upds (fun _ => cU) [(0, .av (.one (.d (.sl .run v0)))), (3, .av (.one (.ls 23 0 none))), (23, .arr .run true v3), (4, .av (.one (.d (.i .i64 v4))))], 24⟩
theorem top_w_toRunS (fuel : Nat) (p0 : List (List Row)) : runF (E_w_toRunS fuel) Try.f71 [.sl .run p0] =
 cond (decide (0 ≤ (p0.length : Int)) && decide ((p0.length : Int) ≤ (p0.length : Int)) && lim ((p0.length : Int).toNat)) (X_w_toRunS_0 fuel fuel p0 (List.replicate ((p0.length : Int).toNat) (([] : List Row) : List Row)) 0) none := by kernel_rfl
theorem st_w_toRunS_0 (fuel : Nat) (n : Nat)  (v0 : List (List Row)) (v3 : List (List Row)) (v4 : Int) : X_w_toRunS_0 fuel (n + 1) v0 v3 v4 =
 cond (decide (v4 < (v0.length : Int)))
 (Option.bind (geti v0 v4) fun e1 => cond (lil e1.length) (cond (decide (0 ≤ v4) && decide (v4.toNat < v3.length)) (Option.bind (v3[0 + v4.toNat]?) fun e2 => X_w_toRunS_0 fuel n v0 (v3.set (0 + v4.toNat) (e1 : List Row)) (IntKind.i64.wrap (v4 + 1))) none) none)
 (some [(true, .sl .run v3)]) := by kernel_rfl
noncomputable def R_w_toRunS_0 (fuel : Nat) (v0 : List (List Row)) : List (List Row) → Int → List (List Row) → Res
  | [], v4, v3 => some [(true, .sl .run v3)]
  | e0 :: r, v4, v3 => cond (lil e0.length) (cond (decide (0 ≤ v4) && decide (v4.toNat < v3.length)) (Option.bind (v3[0 + v4.toNat]?) fun e2 => R_w_toRunS_0 fuel v0 r (v4 + 1) (v3.set (0 + v4.toNat) (e0 : List Row))) none) none
theorem lp_w_toRunS_0 (fuel : Nat) (v0 : List (List Row)) (hl : v0.length < 1099511627776) : ∀ (suf pre : List (List Row)) (n : Nat) (v4 : Int) (v3 : List (List Row)), v0 = pre ++ suf → v4 = pre.length → suf.length < n → X_w_toRunS_0 fuel n v0 v3 v4 = R_w_toRunS_0 fuel v0 suf v4 v3
  | [], pre, n, v4, v3, h, hi, hn => by
    obtain ⟨k, rfl, -⟩ := bump hn
    rw [st_w_toRunS_0, cond_false' (at_end h hi)]
    rfl
  | e0 :: suf, pre, n, v4, v3, h, hi, hn => by
    obtain ⟨k, rfl, hk⟩ := bump hn
    have ih := fun (q_v3 : List (List Row)) => lp_w_toRunS_0 fuel v0 hl suf (pre ++ [e0]) k (v4 + 1) q_v3 (at_step h) (at_idx hi) hk
    rw [st_w_toRunS_0, cond_true' (at_mid h hi)]
    simp only [at_get h hi, at_arr h hi, at_chk h hi, cond_true, Option.bind_some, at_next' h hi hl, ih]
    rfl
theorem T_w_toRunS (fuel : Nat) (L : List (List Row)) : ∀ (l tl pre : List (List Row)) (i : Int), (∀ e ∈ l, (lil e.length) = true) → l.length = tl.length → i = pre.length → R_w_toRunS_0 fuel L l i (pre ++ tl) = some [(true, .sl .run (pre ++ l))]
  | [], [], pre, i, _, _, _ => rfl
  | e :: l, t :: tl, pre, i, h, hl, hi => by
    have he : (lil e.length) = true := h e (by simp)
    have ih := T_w_toRunS fuel L l tl (pre ++ [e]) (i + 1) (fun x hx => h x (by simp [hx])) (by simpa using hl) (at_idx hi)
    rw [R_w_toRunS_0]
    simp only [he, cond_true, at_chk (pre := pre) (e := t) (suf := tl) rfl hi, at_arr (pre := pre) (e := t) (suf := tl) rfl hi, Option.bind_some]
    rw [set_app (by omega)]
    simp only [List.append_assoc, List.singleton_append] at ih
    exact ih
  | [], _ :: _, _, _, _, h, _ => by simp at h
  | _ :: _, [], _, _, _, h, _ => by simp at h
theorem run_w_toRunS (p0 : List (List Row)) (h : (lil p0.length && p0.all fun e => lil e.length) = true) : runF (E_w_toRunS BIG) Try.f71 [.sl .run p0] = some [(true, .sl .run p0)] := by
  obtain ⟨h1, h2⟩ := (Bool.and_eq_true _ _).mp h
  have hs := lil_iff.1 h1
  rw [top_w_toRunS, cond_true' (by simp [lil_lim hs]), lp_w_toRunS_0 BIG p0 (lil_small hs) p0 [] BIG 0 _ rfl rfl (lil_big hs)]
  exact T_w_toRunS BIG p0 p0 _ [] 0 (List.all_eq_true.1 h2) (by simp) rfl
def F_w_toRunS : Ai.Fn := ⟨[(false, [.sl .run])], [(false, 1)], false, fun ds => match ds with | [.sl .run p0] => (lil p0.length && p0.all fun e => lil e.length) | _ => false, fun ds => match ds with | [.sl .run p0] => some [(true, .sl .run (p0))] | _ => none⟩
theorem fg_w_toRunS : Try.prog.funcs[71]? = some Try.f71 := by kernel_rfl
theorem c_w_toRunS : Ctr Try.prog 71 F_w_toRunS := by
  refine ctr_of_run (code := Try.f71.body.getD .skip) mixed fg_w_toRunS (by kernel_rfl) (Nat.le_of_ble_eq_true (by kernel_rfl)) (Nat.le_of_ble_eq_true (by kernel_rfl)) fun ds out hd hr => ?_
  dsimp only [F_w_toRunS] at hd hr
  split at hd
  · simp only [Option.some.injEq] at hr
    subst hr
    exact ⟨E_w_toRunS BIG, tys_ok tysB_ok, FnsL.cons (fn_ok c_w_toRun) fg_w_toRun rfl rfl (FnsL.nil), rfl, by kernel_rfl, by kernel_rfl, run_w_toRunS _ hd⟩
  · cases hd
def E_w_toSorter (fuel : Nat) : Env := ⟨tys, [(31, callFn F_w_toRowS), (71, callFn F_w_toRunS)], [], fuel, 40, 0⟩
theorem top_w_toSorter (fuel : Nat) (p0_0 : List Row) (p0_1 : Int) (p0_2 : List Row) (p0_3 : List Row) (p0_4 : List Row) (p0_5 : List (List Row)) (p0_6 : Int) (p0_7 : Int) (p0_8 : Int) (p0_9 : Int) : runF (E_w_toSorter fuel) Try.f30 [.sl .row p0_0, .i .i64 p0_1, .sl .row p0_2, .sl .row p0_3, .sl .row p0_4, .sl .run p0_5, .i .i64 p0_6, .i .i64 p0_7, .i .i64 p0_8, .i .i64 p0_9] =
 cond (lil p0_0.length && p0_0.all fun e => true) (cond (lil p0_2.length && p0_2.all fun e => true) (cond (lil p0_3.length && p0_3.all fun e => true) (cond (lil p0_4.length && p0_4.all fun e => true) (cond (lil p0_5.length && p0_5.all fun e => lil e.length) (some [(true, .sl .row p0_0), (true, .i .i64 p0_1), (true, .sl .row p0_2), (true, .sl .row p0_3), (true, .sl .row p0_4), (true, .sl .run p0_5), (true, .i .i64 p0_6), (true, .i .i64 p0_7), (true, .i .i64 p0_8), (true, .i .i64 p0_9)]) none) none) none) none) none := by kernel_rfl
theorem lilRuns_all {l : List (List Row)} (h : lilRuns l = true) : (lil l.length && l.all fun e => lil e.length) = true := by
  obtain ⟨h1, h2⟩ := lilRuns_iff.1 h
  simp only [Bool.and_eq_true, List.all_eq_true]
  exact ⟨lil_iff.2 h1, fun r hr => lil_iff.2 (by have := flat_mem hr; omega)⟩
theorem all_true {α : Type} (l : List α) : (l.all fun _ => true) = true := by simp
theorem run_w_toSorter (q0 : List Row) (q1 : Int) (q2 q3 q4 : List Row) (q5 : List (List Row)) (q6 q7 q8 q9 : Int) (h : lilS ⟨q0, q1, q2, q3, q4, q5, q6, q7, q8, q9⟩ = true) : runF (E_w_toSorter BIG) Try.f30 [.sl .row q0, .i .i64 q1, .sl .row q2, .sl .row q3, .sl .row q4, .sl .run q5, .i .i64 q6, .i .i64 q7, .i .i64 q8, .i .i64 q9] = some [(true, .sl .row q0), (true, .i .i64 q1), (true, .sl .row q2), (true, .sl .row q3), (true, .sl .row q4), (true, .sl .run q5), (true, .i .i64 q6), (true, .i .i64 q7), (true, .i .i64 q8), (true, .i .i64 q9)] := by
  obtain ⟨l1, l2, l3, l4, l5, l6⟩ := lilS_iff.1 h
  rw [top_w_toSorter]
  simp only [lil_iff.2 l1, lil_iff.2 l2, lil_iff.2 l3, lil_iff.2 l4, lilRuns_all (lilRuns_iff.2 ⟨l5, l6⟩), all_true, Bool.and_self, cond_true]
def F_w_toSorter : Ai.Fn := ⟨[(true, [.sl .row, .sc, .sl .row, .sl .row, .sl .row, .sl .run, .sc, .sc, .sc, .sc])], [(true, 10)], false, fun ds => match ds with | [.sl .row p0_0, .i .i64 p0_1, .sl .row p0_2, .sl .row p0_3, .sl .row p0_4, .sl .run p0_5, .i .i64 p0_6, .i .i64 p0_7, .i .i64 p0_8, .i .i64 p0_9] => lilS ⟨p0_0, p0_1, p0_2, p0_3, p0_4, p0_5, p0_6, p0_7, p0_8, p0_9⟩ | _ => false, fun ds => match ds with | [.sl .row p0_0, .i .i64 p0_1, .sl .row p0_2, .sl .row p0_3, .sl .row p0_4, .sl .run p0_5, .i .i64 p0_6, .i .i64 p0_7, .i .i64 p0_8, .i .i64 p0_9] => some [(true, .sl .row (p0_0)), (true, .i .i64 (p0_1)), (true, .sl .row (p0_2)), (true, .sl .row (p0_3)), (true, .sl .row (p0_4)), (true, .sl .run (p0_5)), (true, .i .i64 (p0_6)), (true, .i .i64 (p0_7)), (true, .i .i64 (p0_8)), (true, .i .i64 (p0_9))] | _ => none⟩
theorem fg_w_toSorter : Try.prog.funcs[30]? = some Try.f30 := by kernel_rfl
theorem c_w_toSorter : Ctr Try.prog 30 F_w_toSorter := by
  refine ctr_of_run (code := Try.f30.body.getD .skip) mixed fg_w_toSorter (by kernel_rfl) (Nat.le_of_ble_eq_true (by kernel_rfl)) (Nat.le_of_ble_eq_true (by kernel_rfl)) fun ds out hd hr => ?_
  dsimp only [F_w_toSorter] at hd hr
  split at hd
  · simp only [Option.some.injEq] at hr
    subst hr
    exact ⟨E_w_toSorter BIG, tys_ok tysB_ok, FnsL.cons (fn_ok c_w_toRowS) fg_w_toRowS rfl rfl (FnsL.cons (fn_ok c_w_toRunS) fg_w_toRunS rfl rfl (FnsL.nil)), rfl, by kernel_rfl, by kernel_rfl, run_w_toSorter _ _ _ _ _ _ _ _ _ _ hd⟩
  · cases hd

/- Equality. -/
def E_w_eqRow (fuel : Nat) : Env := ⟨tys, [], [], fuel, 20, 0⟩
theorem top_w_eqRow (fuel : Nat) (p0_0 : Int) (p0_1 : Int) (p0_2 : Int) (p1_0 : Int) (p1_1 : Int) (p1_2 : Int) : runF (E_w_eqRow fuel) Try.f87 [.i .i64 p0_0, .i .i64 p0_1, .i .i64 p0_2, .i .i64 p1_0, .i .i64 p1_1, .i .i64 p1_2] =
 cond (!decide (p0_0 = p1_0))
 (some [(true, .b false)])
 (cond (!decide (p0_1 = p1_1))
 (some [(true, .b false)])
 (cond (!decide (p0_2 = p1_2))
 (some [(true, .b false)])
 (some [(true, .b true)]))) := by kernel_rfl
theorem run_w_eqRow (a b c d e f : Int) (_ : true = true) : runF (E_w_eqRow BIG) Try.f87 [.i .i64 a, .i .i64 b, .i .i64 c, .i .i64 d, .i .i64 e, .i .i64 f] = some [(true, .b (decide ((⟨a, b, c⟩ : Row) = ⟨d, e, f⟩)))] := by
  rw [top_w_eqRow]
  simp only [pushB, Row.mk.injEq, Bool.decide_and]
  refine someB ?_
  cases decide (a = d) <;> cases decide (b = e) <;> cases decide (c = f) <;> rfl
def F_w_eqRow : Ai.Fn := ⟨[(true, [.sc, .sc, .sc]), (true, [.sc, .sc, .sc])], [(false, 1)], false, fun ds => match ds with | [.i .i64 p0_0, .i .i64 p0_1, .i .i64 p0_2, .i .i64 p1_0, .i .i64 p1_1, .i .i64 p1_2] => true | _ => false, fun ds => match ds with | [.i .i64 p0_0, .i .i64 p0_1, .i .i64 p0_2, .i .i64 p1_0, .i .i64 p1_1, .i .i64 p1_2] => some [(true, .b (decide ((⟨p0_0, p0_1, p0_2⟩ : Row) = ⟨p1_0, p1_1, p1_2⟩)))] | _ => none⟩
theorem fg_w_eqRow : Try.prog.funcs[87]? = some Try.f87 := by kernel_rfl
theorem c_w_eqRow : Ctr Try.prog 87 F_w_eqRow := by
  refine ctr_of_run (code := Try.f87.body.getD .skip) mixed fg_w_eqRow (by kernel_rfl) (Nat.le_of_ble_eq_true (by kernel_rfl)) (Nat.le_of_ble_eq_true (by kernel_rfl)) fun ds out hd hr => ?_
  dsimp only [F_w_eqRow] at hd hr
  split at hd
  · simp only [Option.some.injEq] at hr
    subst hr
    exact ⟨E_w_eqRow BIG, tys_ok tysB_ok, FnsL.nil, rfl, by kernel_rfl, by kernel_rfl, run_w_eqRow _ _ _ _ _ _ hd⟩
  · cases hd
def E_w_eqRowS (fuel : Nat) : Env := ⟨tys, [(87, callFn F_w_eqRow)], [(0, ([(0, .p), (1, .p), (5, .p)], 27))], fuel, 27, 0⟩
noncomputable def X_w_eqRowS_0 (fuel : Nat) (n : Nat)  (v0 : List Row) (v1 : List Row) (v5 : Int) : Res := loopF (E_w_eqRowS fuel) Try.f38 [1, 1, 0, 1] [] n ⟨upds (fun _ => cU) [(0, .av (.one (.d (.sl .row v0)))), (1, .av (.one (.d (.sl .row v1)))), (5, .av (.one (.d (.i .i64 v5))))], 27⟩
theorem top_w_eqRowS (fuel : Nat) (p0 : List Row) (p1 : List Row) : runF (E_w_eqRowS fuel) Try.f38 [.sl .row p0, .sl .row p1] =
 cond (!decide ((p0.length : Int) = (p1.length : Int)))
 (some [(true, .b false)])
 (X_w_eqRowS_0 fuel fuel p0 p1 0) := by kernel_rfl
theorem st_w_eqRowS_0 (fuel : Nat) (n : Nat)  (v0 : List Row) (v1 : List Row) (v5 : Int) : X_w_eqRowS_0 fuel (n + 1) v0 v1 v5 =
 cond (decide (v5 < (v0.length : Int)))
 (Option.bind (geti v0 v5) fun e1 => Option.bind (geti v1 v5) fun e2 => cond (!(decide ((e1 : Row) = e2)))
 (some [(true, .b false)])
 (X_w_eqRowS_0 fuel n v0 v1 (IntKind.i64.wrap (v5 + 1))))
 (some [(true, .b true)]) := by kernel_rfl
noncomputable def R_w_eqRowS_0 (fuel : Nat) (v0 : List Row) : List Row → Int → List Row → Res
  | [], v5, v1 => some [(true, .b true)]
  | e0 :: r, v5, v1 => Option.bind (geti v1 v5) fun e2 => cond (!(decide ((e0 : Row) = e2)))
       (some [(true, .b false)])
       (R_w_eqRowS_0 fuel v0 r (v5 + 1) v1)
theorem lp_w_eqRowS_0 (fuel : Nat) (v0 : List Row) (hl : v0.length < 1099511627776) : ∀ (suf pre : List Row) (n : Nat) (v5 : Int) (v1 : List Row), v0 = pre ++ suf → v5 = pre.length → suf.length < n → X_w_eqRowS_0 fuel n v0 v1 v5 = R_w_eqRowS_0 fuel v0 suf v5 v1
  | [], pre, n, v5, v1, h, hi, hn => by
    obtain ⟨k, rfl, -⟩ := bump hn
    rw [st_w_eqRowS_0, cond_false' (at_end h hi)]
    rfl
  | e0 :: suf, pre, n, v5, v1, h, hi, hn => by
    obtain ⟨k, rfl, hk⟩ := bump hn
    have ih := fun (q_v1 : List Row) => lp_w_eqRowS_0 fuel v0 hl suf (pre ++ [e0]) k (v5 + 1) q_v1 (at_step h) (at_idx hi) hk
    rw [st_w_eqRowS_0, cond_true' (at_mid h hi)]
    simp only [at_get h hi, at_arr h hi, at_chk h hi, cond_true, Option.bind_some, at_next' h hi hl, ih]
    rfl
theorem Q_w_eqRowS (fuel : Nat) (L : List Row) : ∀ (l l' pre : List Row) (i : Int), (∀ e ∈ l, (true) = true) → l.length = l'.length → i = pre.length → R_w_eqRowS_0 fuel L l i (pre ++ l') = some [(true, .b (decide (l = l')))]
  | [], [], pre, i, _, _, _ => rfl
  | e :: l, e' :: l', pre, i, hd, h, hi => by
    have he : (true) = true := hd e (by simp)
    have ih := Q_w_eqRowS fuel L l l' (pre ++ [e']) (i + 1) (fun x hx => hd x (by simp [hx])) (by simpa using h) (at_idx hi)
    simp only [List.append_assoc, List.singleton_append] at ih
    rw [R_w_eqRowS_0, geti_app hi]
    simp only [he, cond_true, Option.bind_some, ih]
    by_cases h1 : e = e' <;> simp [h1]
  | [], _ :: _, _, _, _, h, _ => by simp at h
  | _ :: _, [], _, _, _, h, _ => by simp at h
theorem run_w_eqRowS (p0 p1 : List Row) (h : (lil p0.length && p0.all fun e => true) = true) : runF (E_w_eqRowS BIG) Try.f38 [.sl .row p0, .sl .row p1] = some [(true, .b (decide (p0 = p1)))] := by
  obtain ⟨h0, h2⟩ := (Bool.and_eq_true _ _).mp h
  have hs := lil_iff.1 h0
  rw [top_w_eqRowS]
  by_cases hl : p0.length = p1.length
  · rw [cond_false' (by simp [hl]), lp_w_eqRowS_0 BIG p0 (lil_small hs) p0 [] BIG 0 p1 rfl rfl (lil_big hs)]
    exact Q_w_eqRowS BIG p0 p0 p1 [] 0 (List.all_eq_true.1 h2) hl rfl
  · rw [cond_true' (by simp; omega)]
    have : p0 ≠ p1 := fun e => hl (by rw [e])
    simp [this]
def F_w_eqRowS : Ai.Fn := ⟨[(false, [.sl .row]), (false, [.sl .row])], [(false, 1)], false, fun ds => match ds with | [.sl .row p0, .sl .row p1] => (lil p0.length && p0.all fun e => true) | _ => false, fun ds => match ds with | [.sl .row p0, .sl .row p1] => some [(true, .b (decide (p0 = p1)))] | _ => none⟩
theorem fg_w_eqRowS : Try.prog.funcs[38]? = some Try.f38 := by kernel_rfl
theorem c_w_eqRowS : Ctr Try.prog 38 F_w_eqRowS := by
  refine ctr_of_run (code := Try.f38.body.getD .skip) mixed fg_w_eqRowS (by kernel_rfl) (Nat.le_of_ble_eq_true (by kernel_rfl)) (Nat.le_of_ble_eq_true (by kernel_rfl)) fun ds out hd hr => ?_
  dsimp only [F_w_eqRowS] at hd hr
  split at hd
  · simp only [Option.some.injEq] at hr
    subst hr
    exact ⟨E_w_eqRowS BIG, tys_ok tysB_ok, FnsL.cons (fn_ok c_w_eqRow) fg_w_eqRow rfl rfl (FnsL.nil), rfl, by kernel_rfl, by kernel_rfl, run_w_eqRowS _ _ hd⟩
  · cases hd
def E_w_eqRun (fuel : Nat) : Env := ⟨tys, [(38, callFn F_w_eqRowS)], [], fuel, 11, 0⟩
theorem top_w_eqRun (fuel : Nat) (p0_0 : List Row) (p1_0 : List Row) : runF (E_w_eqRun fuel) Try.f125 [.sl .row p0_0, .sl .row p1_0] =
 cond (lil p0_0.length && p0_0.all fun e => true) (cond (!(decide (p0_0 = p1_0)))
 (some [(true, .b false)])
 (some [(true, .b true)])) none := by kernel_rfl
theorem run_w_eqRun (p0_0 p1_0 : List Row) (h : lil p0_0.length = true) : runF (E_w_eqRun BIG) Try.f125 [.sl .row p0_0, .sl .row p1_0] = some [(true, .b (decide (p0_0 = p1_0)))] := by
  rw [top_w_eqRun, cond_true' (by simp [h]), pushB]
  refine someB ?_
  cases decide (p0_0 = p1_0) <;> rfl
def F_w_eqRun : Ai.Fn := ⟨[(true, [.sl .row]), (true, [.sl .row])], [(false, 1)], false, fun ds => match ds with | [.sl .row p0_0, .sl .row p1_0] => lil p0_0.length | _ => false, fun ds => match ds with | [.sl .row p0_0, .sl .row p1_0] => some [(true, .b (decide (p0_0 = p1_0)))] | _ => none⟩
theorem fg_w_eqRun : Try.prog.funcs[125]? = some Try.f125 := by kernel_rfl
theorem c_w_eqRun : Ctr Try.prog 125 F_w_eqRun := by
  refine ctr_of_run (code := Try.f125.body.getD .skip) mixed fg_w_eqRun (by kernel_rfl) (Nat.le_of_ble_eq_true (by kernel_rfl)) (Nat.le_of_ble_eq_true (by kernel_rfl)) fun ds out hd hr => ?_
  dsimp only [F_w_eqRun] at hd hr
  split at hd
  · simp only [Option.some.injEq] at hr
    subst hr
    exact ⟨E_w_eqRun BIG, tys_ok tysB_ok, FnsL.cons (fn_ok c_w_eqRowS) fg_w_eqRowS rfl rfl (FnsL.nil), rfl, by kernel_rfl, by kernel_rfl, run_w_eqRun _ _ hd⟩
  · cases hd
def E_w_eqRunS (fuel : Nat) : Env := ⟨tys, [(125, callFn F_w_eqRun)], [(0, ([(0, .p), (1, .p), (5, .p)], 27))], fuel, 27, 0⟩
noncomputable def X_w_eqRunS_0 (fuel : Nat) (n : Nat)  (v0 : List (List Row)) (v1 : List (List Row)) (v5 : Int) : Res := loopF (E_w_eqRunS fuel) Try.f86 [1, 1, 0, 1] [] n ⟨upds (fun _ => cU) [(0, .av (.one (.d (.sl .run v0)))), (1, .av (.one (.d (.sl .run v1)))), (5, .av (.one (.d (.i .i64 v5))))], 27⟩
theorem top_w_eqRunS (fuel : Nat) (p0 : List (List Row)) (p1 : List (List Row)) : runF (E_w_eqRunS fuel) Try.f86 [.sl .run p0, .sl .run p1] =
 cond (!decide ((p0.length : Int) = (p1.length : Int)))
 (some [(true, .b false)])
 (X_w_eqRunS_0 fuel fuel p0 p1 0) := by kernel_rfl
theorem st_w_eqRunS_0 (fuel : Nat) (n : Nat)  (v0 : List (List Row)) (v1 : List (List Row)) (v5 : Int) : X_w_eqRunS_0 fuel (n + 1) v0 v1 v5 =
 cond (decide (v5 < (v0.length : Int)))
 (Option.bind (geti v0 v5) fun e1 => Option.bind (geti v1 v5) fun e2 => cond (lil e1.length) (cond (!(decide (e1 = e2)))
 (some [(true, .b false)])
 (X_w_eqRunS_0 fuel n v0 v1 (IntKind.i64.wrap (v5 + 1)))) none)
 (some [(true, .b true)]) := by kernel_rfl
noncomputable def R_w_eqRunS_0 (fuel : Nat) (v0 : List (List Row)) : List (List Row) → Int → List (List Row) → Res
  | [], v5, v1 => some [(true, .b true)]
  | e0 :: r, v5, v1 => Option.bind (geti v1 v5) fun e2 => cond (lil e0.length) (cond (!(decide (e0 = e2)))
       (some [(true, .b false)])
       (R_w_eqRunS_0 fuel v0 r (v5 + 1) v1)) none
theorem lp_w_eqRunS_0 (fuel : Nat) (v0 : List (List Row)) (hl : v0.length < 1099511627776) : ∀ (suf pre : List (List Row)) (n : Nat) (v5 : Int) (v1 : List (List Row)), v0 = pre ++ suf → v5 = pre.length → suf.length < n → X_w_eqRunS_0 fuel n v0 v1 v5 = R_w_eqRunS_0 fuel v0 suf v5 v1
  | [], pre, n, v5, v1, h, hi, hn => by
    obtain ⟨k, rfl, -⟩ := bump hn
    rw [st_w_eqRunS_0, cond_false' (at_end h hi)]
    rfl
  | e0 :: suf, pre, n, v5, v1, h, hi, hn => by
    obtain ⟨k, rfl, hk⟩ := bump hn
    have ih := fun (q_v1 : List (List Row)) => lp_w_eqRunS_0 fuel v0 hl suf (pre ++ [e0]) k (v5 + 1) q_v1 (at_step h) (at_idx hi) hk
    rw [st_w_eqRunS_0, cond_true' (at_mid h hi)]
    simp only [at_get h hi, at_arr h hi, at_chk h hi, cond_true, Option.bind_some, at_next' h hi hl, ih]
    rfl
theorem Q_w_eqRunS (fuel : Nat) (L : List (List Row)) : ∀ (l l' pre : List (List Row)) (i : Int), (∀ e ∈ l, (lil e.length) = true) → l.length = l'.length → i = pre.length → R_w_eqRunS_0 fuel L l i (pre ++ l') = some [(true, .b (decide (l = l')))]
  | [], [], pre, i, _, _, _ => rfl
  | e :: l, e' :: l', pre, i, hd, h, hi => by
    have he : (lil e.length) = true := hd e (by simp)
    have ih := Q_w_eqRunS fuel L l l' (pre ++ [e']) (i + 1) (fun x hx => hd x (by simp [hx])) (by simpa using h) (at_idx hi)
    simp only [List.append_assoc, List.singleton_append] at ih
    rw [R_w_eqRunS_0, geti_app hi]
    simp only [he, cond_true, Option.bind_some, ih]
    by_cases h1 : e = e' <;> simp [h1]
  | [], _ :: _, _, _, _, h, _ => by simp at h
  | _ :: _, [], _, _, _, h, _ => by simp at h
theorem run_w_eqRunS (p0 p1 : List (List Row)) (h : (lil p0.length && p0.all fun e => lil e.length) = true) : runF (E_w_eqRunS BIG) Try.f86 [.sl .run p0, .sl .run p1] = some [(true, .b (decide (p0 = p1)))] := by
  obtain ⟨h0, h2⟩ := (Bool.and_eq_true _ _).mp h
  have hs := lil_iff.1 h0
  rw [top_w_eqRunS]
  by_cases hl : p0.length = p1.length
  · rw [cond_false' (by simp [hl]), lp_w_eqRunS_0 BIG p0 (lil_small hs) p0 [] BIG 0 p1 rfl rfl (lil_big hs)]
    exact Q_w_eqRunS BIG p0 p0 p1 [] 0 (List.all_eq_true.1 h2) hl rfl
  · rw [cond_true' (by simp; omega)]
    have : p0 ≠ p1 := fun e => hl (by rw [e])
    simp [this]
def F_w_eqRunS : Ai.Fn := ⟨[(false, [.sl .run]), (false, [.sl .run])], [(false, 1)], false, fun ds => match ds with | [.sl .run p0, .sl .run p1] => (lil p0.length && p0.all fun e => lil e.length) | _ => false, fun ds => match ds with | [.sl .run p0, .sl .run p1] => some [(true, .b (decide (p0 = p1)))] | _ => none⟩
theorem fg_w_eqRunS : Try.prog.funcs[86]? = some Try.f86 := by kernel_rfl
theorem c_w_eqRunS : Ctr Try.prog 86 F_w_eqRunS := by
  refine ctr_of_run (code := Try.f86.body.getD .skip) mixed fg_w_eqRunS (by kernel_rfl) (Nat.le_of_ble_eq_true (by kernel_rfl)) (Nat.le_of_ble_eq_true (by kernel_rfl)) fun ds out hd hr => ?_
  dsimp only [F_w_eqRunS] at hd hr
  split at hd
  · simp only [Option.some.injEq] at hr
    subst hr
    exact ⟨E_w_eqRunS BIG, tys_ok tysB_ok, FnsL.cons (fn_ok c_w_eqRun) fg_w_eqRun rfl rfl (FnsL.nil), rfl, by kernel_rfl, by kernel_rfl, run_w_eqRunS _ _ hd⟩
  · cases hd
def E_w_eqSorter (fuel : Nat) : Env := ⟨tys, [(38, callFn F_w_eqRowS), (86, callFn F_w_eqRunS)], [], fuel, 60, 0⟩
theorem top_w_eqSorter (fuel : Nat) (p0_0 : List Row) (p0_1 : Int) (p0_2 : List Row) (p0_3 : List Row) (p0_4 : List Row) (p0_5 : List (List Row)) (p0_6 : Int) (p0_7 : Int) (p0_8 : Int) (p0_9 : Int) (p1_0 : List Row) (p1_1 : Int) (p1_2 : List Row) (p1_3 : List Row) (p1_4 : List Row) (p1_5 : List (List Row)) (p1_6 : Int) (p1_7 : Int) (p1_8 : Int) (p1_9 : Int) : runF (E_w_eqSorter fuel) Try.f37 [.sl .row p0_0, .i .i64 p0_1, .sl .row p0_2, .sl .row p0_3, .sl .row p0_4, .sl .run p0_5, .i .i64 p0_6, .i .i64 p0_7, .i .i64 p0_8, .i .i64 p0_9, .sl .row p1_0, .i .i64 p1_1, .sl .row p1_2, .sl .row p1_3, .sl .row p1_4, .sl .run p1_5, .i .i64 p1_6, .i .i64 p1_7, .i .i64 p1_8, .i .i64 p1_9] =
 cond (lil p0_0.length && p0_0.all fun e => true) (cond (!(decide (p0_0 = p1_0)))
 (some [(true, .b false)])
 (cond (!decide (p0_1 = p1_1))
 (some [(true, .b false)])
 (cond (lil p0_2.length && p0_2.all fun e => true) (cond (!(decide (p0_2 = p1_2)))
 (some [(true, .b false)])
 (cond (lil p0_3.length && p0_3.all fun e => true) (cond (!(decide (p0_3 = p1_3)))
 (some [(true, .b false)])
 (cond (lil p0_4.length && p0_4.all fun e => true) (cond (!(decide (p0_4 = p1_4)))
 (some [(true, .b false)])
 (cond (lil p0_5.length && p0_5.all fun e => lil e.length) (cond (!(decide (p0_5 = p1_5)))
 (some [(true, .b false)])
 (cond (!decide (p0_6 = p1_6))
 (some [(true, .b false)])
 (cond (!decide (p0_7 = p1_7))
 (some [(true, .b false)])
 (cond (!decide (p0_8 = p1_8))
 (some [(true, .b false)])
 (cond (!decide (p0_9 = p1_9))
 (some [(true, .b false)])
 (some [(true, .b true)])))))) none)) none)) none)) none))) none := by kernel_rfl
theorem run_w_eqSorter (q0 : List Row) (q1 : Int) (q2 q3 q4 : List Row) (q5 : List (List Row)) (q6 q7 q8 q9 : Int) (r0 : List Row) (r1 : Int) (r2 r3 r4 : List Row) (r5 : List (List Row)) (r6 r7 r8 r9 : Int) (h : lilS ⟨q0, q1, q2, q3, q4, q5, q6, q7, q8, q9⟩ = true) :
    runF (E_w_eqSorter BIG) Try.f37 [.sl .row q0, .i .i64 q1, .sl .row q2, .sl .row q3, .sl .row q4, .sl .run q5, .i .i64 q6, .i .i64 q7, .i .i64 q8, .i .i64 q9, .sl .row r0, .i .i64 r1, .sl .row r2, .sl .row r3, .sl .row r4, .sl .run r5, .i .i64 r6, .i .i64 r7, .i .i64 r8, .i .i64 r9] =
    some [(true, .b (decide ((⟨q0, q1, q2, q3, q4, q5, q6, q7, q8, q9⟩ : Srt) = ⟨r0, r1, r2, r3, r4, r5, r6, r7, r8, r9⟩)))] := by
  obtain ⟨l1, l2, l3, l4, l5, l6⟩ := lilS_iff.1 h
  rw [top_w_eqSorter]
  simp only [lil_iff.2 l1, lil_iff.2 l2, lil_iff.2 l3, lil_iff.2 l4, lilRuns_all (lilRuns_iff.2 ⟨l5, l6⟩), all_true, Bool.and_self, cond_true, pushB, Srt.mk.injEq, Bool.decide_and]
  refine someB ?_
  cases decide (q0 = r0) <;> cases decide (q1 = r1) <;> cases decide (q2 = r2) <;> cases decide (q3 = r3) <;> cases decide (q4 = r4) <;> cases decide (q5 = r5) <;> cases decide (q6 = r6) <;> cases decide (q7 = r7) <;> simp
def F_w_eqSorter : Ai.Fn := ⟨[(true, [.sl .row, .sc, .sl .row, .sl .row, .sl .row, .sl .run, .sc, .sc, .sc, .sc]), (true, [.sl .row, .sc, .sl .row, .sl .row, .sl .row, .sl .run, .sc, .sc, .sc, .sc])], [(false, 1)], false, fun ds => match ds with | [.sl .row p0_0, .i .i64 p0_1, .sl .row p0_2, .sl .row p0_3, .sl .row p0_4, .sl .run p0_5, .i .i64 p0_6, .i .i64 p0_7, .i .i64 p0_8, .i .i64 p0_9, .sl .row p1_0, .i .i64 p1_1, .sl .row p1_2, .sl .row p1_3, .sl .row p1_4, .sl .run p1_5, .i .i64 p1_6, .i .i64 p1_7, .i .i64 p1_8, .i .i64 p1_9] => lilS ⟨p0_0, p0_1, p0_2, p0_3, p0_4, p0_5, p0_6, p0_7, p0_8, p0_9⟩ | _ => false, fun ds => match ds with | [.sl .row p0_0, .i .i64 p0_1, .sl .row p0_2, .sl .row p0_3, .sl .row p0_4, .sl .run p0_5, .i .i64 p0_6, .i .i64 p0_7, .i .i64 p0_8, .i .i64 p0_9, .sl .row p1_0, .i .i64 p1_1, .sl .row p1_2, .sl .row p1_3, .sl .row p1_4, .sl .run p1_5, .i .i64 p1_6, .i .i64 p1_7, .i .i64 p1_8, .i .i64 p1_9] => some [(true, .b (decide ((⟨p0_0, p0_1, p0_2, p0_3, p0_4, p0_5, p0_6, p0_7, p0_8, p0_9⟩ : Srt) = ⟨p1_0, p1_1, p1_2, p1_3, p1_4, p1_5, p1_6, p1_7, p1_8, p1_9⟩)))] | _ => none⟩
theorem fg_w_eqSorter : Try.prog.funcs[37]? = some Try.f37 := by kernel_rfl
theorem c_w_eqSorter : Ctr Try.prog 37 F_w_eqSorter := by
  refine ctr_of_run (code := Try.f37.body.getD .skip) mixed fg_w_eqSorter (by kernel_rfl) (Nat.le_of_ble_eq_true (by kernel_rfl)) (Nat.le_of_ble_eq_true (by kernel_rfl)) fun ds out hd hr => ?_
  dsimp only [F_w_eqSorter] at hd hr
  split at hd
  · simp only [Option.some.injEq] at hr
    subst hr
    exact ⟨E_w_eqSorter BIG, tys_ok tysB_ok, FnsL.cons (fn_ok c_w_eqRowS) fg_w_eqRowS rfl rfl (FnsL.cons (fn_ok c_w_eqRunS) fg_w_eqRunS rfl rfl (FnsL.nil)), rfl, by kernel_rfl, by kernel_rfl, run_w_eqSorter _ _ _ _ _ _ _ _ _ _ _ _ _ _ _ _ _ _ _ _ hd⟩
  · cases hd
end Go.Proofs.Ytfjdfbdiichhdaa
