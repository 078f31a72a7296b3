/-
  FormatInt of the reference and of the program. Conditions: none (numbers of 64 bits).
-/
import Derived.Test.YtfjdfbdiichhdaaB1
namespace Go.Proofs.Ytfjdfbdiichhdaa
open Go Ai
set_option maxRecDepth 100000
def dch (n : Nat) : Str := toStr [48 + (n : Int)]
def dg (n : Nat) : Str := if n < 10 then dch n else dg (n / 10) ++ dch (n % 10)
  termination_by n
  decreasing_by omega
theorem dch_len (n : Nat) : (dch n).length = 1 := by simp [dch, toStr]
theorem dg_len : ∀ (f n : Nat), n < 10 ^ (f + 1) → (dg n).length ≤ f + 1
  | 0, n, h => by
    rw [dg, if_pos (by omega), dch_len]
    omega
  | f + 1, n, h => by
    rw [dg]
    split
    · rw [dch_len]; omega
    · have := dg_len f (n / 10) (by rw [Nat.pow_succ] at h; omega)
      rw [List.length_append, dch_len]; omega
theorem dgl {n : Nat} (h : n < 18446744073709551616) : (dg n).length ≤ 20 := dg_len 19 n (by omega)
theorem dg_lt {n : Nat} (h : n < 10) : dg n = dch n := by rw [dg, if_pos h]
theorem dg_ge {n : Nat} (h : ¬ n < 10) : dg n = dg (n / 10) ++ dch (n % 10) := by rw [dg.eq_1 n, if_neg h]
theorem dg_succ {n : Nat} (h : ¬ n < 10) : (dg n).length = (dg (n / 10)).length + 1 := by rw [dg_ge h, List.length_append, dch_len]
theorem dig64 {n : Int} (h0 : 0 ≤ n) (h : n < 10) : toStr ([IntKind.u8.wrap (IntKind.i64.wrap (48 + n))] : List Int) = dch n.toNat := by
  have h1 : IntKind.i64.wrap (48 + n) = 48 + n := wrap64 (by omega) (by omega)
  have h2 : IntKind.u8.wrap (48 + n) = 48 + n := by
    show (48 + n) % 256 = 48 + n
    omega
  rw [h1, h2]
  unfold dch
  rw [Int.toNat_of_nonneg h0]
theorem digU {n : Int} (h0 : 0 ≤ n) (h : n < 10) : toStr ([IntKind.u8.wrap (IntKind.u64.wrap (48 + n))] : List Int) = dch n.toNat := by
  have h1 : IntKind.u64.wrap (48 + n) = 48 + n := by
    show (48 + n) % 18446744073709551616 = 48 + n
    omega
  have h2 : IntKind.u8.wrap (48 + n) = 48 + n := by
    show (48 + n) % 256 = 48 + n
    omega
  rw [h1, h2]
  unfold dch
  rw [Int.toNat_of_nonneg h0]
def fI (n : Int) : Str := if n < 0 then 45 :: dg n.natAbs else dg n.natAbs
def idom (n : Int) : Bool := decide (-9223372036854775808 ≤ n) && decide (n < 9223372036854775808)
theorem idom_iff {n : Int} : idom n = true ↔ -9223372036854775808 ≤ n ∧ n < 9223372036854775808 := by simp [idom]
theorem fI_len {n : Int} (h : idom n = true) : (fI n).length ≤ 21 := by
  obtain ⟨h1, h2⟩ := idom_iff.1 h
  have := dgl (n := n.natAbs) (by omega)
  unfold fI
  split <;> simp <;> omega
theorem someS {x y : Str} (h : x = y) : (some [(true, DV.s x)] : Option (List (Bool × DV))) = some [(true, DV.s y)] := by rw [h]

def FR_i_decimal (rb : Nat) : Ai.Fn := ⟨[(false, [.sc])], [(false, 1)], false, fun ds => match ds with | [.i .u64 p0] => (decide (0 ≤ p0) && decide (p0 < 18446744073709551616)) && decide ((dg p0.toNat).length < rb) | _ => false, fun ds => match ds with | [.i .u64 p0] => some [(true, .s (dg p0.toNat))] | _ => none⟩
def E_i_decimal (fuel : Nat) (rb : Nat) : Env := ⟨tys, [(131, callFn (FR_i_decimal rb))], [], fuel, 20, 0⟩
theorem top_i_decimal (fuel : Nat) (rb : Nat) (p0 : Int) : runF (E_i_decimal fuel rb) Try.f131 [.i .u64 p0] =
 cond (decide (p0 < 10))
 (some [(true, .s (toStr ([IntKind.u8.wrap (IntKind.u64.wrap (48 + p0))] : List Int)))])
 (cond ((decide (0 ≤ (IntKind.u64.wrap (p0.tdiv 10))) && decide ((IntKind.u64.wrap (p0.tdiv 10)) < 18446744073709551616)) && decide ((dg (IntKind.u64.wrap (p0.tdiv 10)).toNat).length < rb)) (cond (lim ((dg (IntKind.u64.wrap (p0.tdiv 10)).toNat).length + (toStr ([IntKind.u8.wrap (IntKind.u64.wrap (48 + (p0.tmod 10)))] : List Int)).length)) (some [(true, .s ((dg (IntKind.u64.wrap (p0.tdiv 10)).toNat) ++ (toStr ([IntKind.u8.wrap (IntKind.u64.wrap (48 + (p0.tmod 10)))] : List Int))))]) none) none) := by kernel_rfl
theorem run_i_decimal (rb : Nat) (p0 : Int) (h : (decide (0 ≤ p0) && decide (p0 < 18446744073709551616)) = true) (hm : (dg p0.toNat).length ≤ rb) : runF (E_i_decimal BIG rb) Try.f131 [.i .u64 p0] = some [(true, .s (dg p0.toNat))] := by
  obtain ⟨h0, h1⟩ := (Bool.and_eq_true _ _).mp h
  have h0 := of_decide_eq_true h0
  have h1 := of_decide_eq_true h1
  rw [top_i_decimal]
  obtain ⟨n, rfl⟩ := Int.eq_ofNat_of_zero_le h0
  have hm : (dg n).length ≤ rb := hm
  by_cases h10 : (n : Int) < 10
  · rw [cond_true' (decide_eq_true h10), digU h0 h10]
    refine someS ?_
    show _ = dg n
    rw [dg_lt (by omega)]
    rfl
  · rw [cond_false' (decide_eq_false h10)]
    have e1 : ((n : Int).tdiv 10) = ((n / 10 : Nat) : Int) := by rw [Int.tdiv_eq_ediv_of_nonneg h0]; rfl
    have e2 : ((n : Int).tmod 10) = ((n % 10 : Nat) : Int) := by rw [Int.tmod_eq_emod_of_nonneg h0]; rfl
    have e3 : IntKind.u64.wrap ((n / 10 : Nat) : Int) = ((n / 10 : Nat) : Int) := wrapu64 (by omega) (by omega)
    rw [e1, e2, e3, digU (by omega) (by omega)]
    have l1 := dgl (n := n / 10) (by omega)
    have l2 := dg_succ (n := n) (by omega)
    have e4 : ((n / 10 : Nat) : Int).toNat = n / 10 := rfl
    have e5 : ((n % 10 : Nat) : Int).toNat = n % 10 := rfl
    rw [e4, e5, cond_true', cond_true' (lim_ok (by rw [dch_len]; omega))]
    · refine someS ?_
      show _ = dg n
      rw [dg_ge (n := n) (by omega)]
    · simp only [Bool.and_eq_true, decide_eq_true_eq]
      omega
theorem fg_i_decimal : Try.prog.funcs[131]? = some Try.f131 := by kernel_rfl
theorem cr_i_decimal : ∀ rb, Ctr Try.prog 131 (FR_i_decimal rb) := by
  intro rb
  induction rb with
  | zero =>
    refine ctr_of_run (code := Try.f131.body.getD .skip) mixed fg_i_decimal (by kernel_rfl) (Nat.le_of_ble_eq_true (by kernel_rfl)) (Nat.le_of_ble_eq_true (by kernel_rfl)) fun ds out hd hr => ?_
    dsimp only [FR_i_decimal] at hd
    split at hd
    · simp at hd
    · cases hd
  | succ rb ih =>
    refine ctr_of_run (code := Try.f131.body.getD .skip) mixed fg_i_decimal (by kernel_rfl) (Nat.le_of_ble_eq_true (by kernel_rfl)) (Nat.le_of_ble_eq_true (by kernel_rfl)) fun ds out hd hr => ?_
    dsimp only [FR_i_decimal] at hd hr
    split at hd
    · simp only [Option.some.injEq] at hr
      subst hr
      obtain ⟨h1, h2⟩ := (Bool.and_eq_true _ _).mp hd
      exact ⟨E_i_decimal BIG rb, tys_ok tysB_ok, FnsL.cons (fn_ok ih) fg_i_decimal rfl rfl (FnsL.nil), rfl, by kernel_rfl, by kernel_rfl, run_i_decimal rb _ h1 (Nat.le_of_lt_succ (of_decide_eq_true h2))⟩
    · cases hd
def F_i_decimal : Ai.Fn := ⟨[(false, [.sc])], [(false, 1)], false, fun ds => match ds with | [.i .u64 p0] => decide (0 ≤ p0) && decide (p0 < 18446744073709551616) | _ => false, fun ds => match ds with | [.i .u64 p0] => some [(true, .s (dg p0.toNat))] | _ => none⟩
theorem c_i_decimal : Ctr Try.prog 131 F_i_decimal := by
  refine ctr_of_run (code := Try.f131.body.getD .skip) mixed fg_i_decimal (by kernel_rfl) (Nat.le_of_ble_eq_true (by kernel_rfl)) (Nat.le_of_ble_eq_true (by kernel_rfl)) fun ds out hd hr => ?_
  dsimp only [F_i_decimal] at hd hr
  split at hd
  · rename_i p0
    simp only [Option.some.injEq] at hr
    subst hr
    exact ⟨E_i_decimal BIG ((dg p0.toNat).length), tys_ok tysB_ok, FnsL.cons (fn_ok (cr_i_decimal _)) fg_i_decimal rfl rfl (FnsL.nil), rfl, by kernel_rfl, by kernel_rfl, run_i_decimal _ _ hd (Nat.le_refl _)⟩
  · cases hd
def E_s_FormatInt (fuel : Nat) : Env := ⟨tys, [], [(0, ([(0, .p), (3, .p), (4, .p)], 31))], fuel, 31, 0⟩
noncomputable def X_s_FormatInt_0 (fuel : Nat) (n : Nat)  (v0 : Int) (v3 : Str) (v4 : Bool) : Res := loopF (E_s_FormatInt fuel) Try.f102 [1, 1, 1, 1, 0] [] n ⟨upds (fun _ => cU) [(0, .av (.one (.d (.i .i64 v0)))), (3, .av (.one (.d (.s v3)))), (4, .av (.one (.d (.b v4))))], 31⟩
theorem top_s_FormatInt (fuel : Nat) (p0 : Int) : runF (E_s_FormatInt fuel) Try.f102 [.i .i64 p0] =
 cond (decide (p0 = 0))
 (some [(true, .s [48])])
 (X_s_FormatInt_0 fuel fuel p0 [] (decide (p0 < 0))) := by kernel_rfl
theorem st_s_FormatInt_0 (fuel : Nat) (n : Nat)  (v0 : Int) (v3 : Str) (v4 : Bool) : X_s_FormatInt_0 fuel (n + 1) v0 v3 v4 =
 cond (!decide (v0 = 0))
 (cond (decide ((v0.tmod 10) < 0))
 (cond (lim ((toStr ([IntKind.u8.wrap (IntKind.i64.wrap (48 + (IntKind.i64.wrap (0 - (v0.tmod 10)))))] : List Int)).length + v3.length)) (X_s_FormatInt_0 fuel n (IntKind.i64.wrap (v0.tdiv 10)) ((toStr ([IntKind.u8.wrap (IntKind.i64.wrap (48 + (IntKind.i64.wrap (0 - (v0.tmod 10)))))] : List Int)) ++ v3) v4) none)
 (cond (lim ((toStr ([IntKind.u8.wrap (IntKind.i64.wrap (48 + (v0.tmod 10)))] : List Int)).length + v3.length)) (X_s_FormatInt_0 fuel n (IntKind.i64.wrap (v0.tdiv 10)) ((toStr ([IntKind.u8.wrap (IntKind.i64.wrap (48 + (v0.tmod 10)))] : List Int)) ++ v3) v4) none))
 (cond v4
 (cond (lim ([45].length + v3.length)) (some [(true, .s ([45] ++ v3))]) none)
 (some [(true, .s v3)])) := by kernel_rfl
theorem lp0 (fuel n : Nat) (hn : 0 < n) (out : Str) (neg : Bool) (h : out.length < 17179869999) : X_s_FormatInt_0 fuel n 0 out neg = some [(true, .s (if neg then 45 :: out else out))] := by
  obtain ⟨n, rfl⟩ : ∃ k, n = k + 1 := ⟨n - 1, by omega⟩
  rw [st_s_FormatInt_0, cond_false' (by simp)]
  cases neg with
  | true => rw [cond_true, cond_true' (lim_ok (by simp; omega))]; rfl
  | false => rfl
theorem lp_s_FormatInt_0 (fuel : Nat) (neg : Bool) : ∀ (n : Nat) (v0 : Int) (out : Str), (dg v0.natAbs).length < n → v0.natAbs < 18446744073709551616 → v0 ≠ 0 → out.length + (dg v0.natAbs).length < 1000 → -9223372036854775808 ≤ v0 → v0 < 9223372036854775808 →
    X_s_FormatInt_0 fuel n v0 out neg = some [(true, .s (if neg then 45 :: (dg v0.natAbs ++ out) else dg v0.natAbs ++ out))] := by
  intro n
  induction n with
  | zero => intro v0 out h; omega
  | succ n ih =>
    intro v0 out h hs h0 ho r1 r2
    rw [st_s_FormatInt_0, cond_true' (by simp [h0])]
    have hd : ∀ d : Int, 0 ≤ d → d < 10 → d.toNat = v0.natAbs % 10 → (v0.tdiv 10).natAbs = v0.natAbs / 10 →
        cond (lim ((toStr ([IntKind.u8.wrap (IntKind.i64.wrap (48 + d))] : List Int)).length + out.length)) (X_s_FormatInt_0 fuel n (IntKind.i64.wrap (v0.tdiv 10)) ((toStr ([IntKind.u8.wrap (IntKind.i64.wrap (48 + d))] : List Int)) ++ out) neg) none
          = some [(true, .s (if neg then 45 :: (dg v0.natAbs ++ out) else dg v0.natAbs ++ out))] := by
      intro d d0 d1 d2 d3
      have hw : IntKind.i64.wrap (v0.tdiv 10) = v0.tdiv 10 := by clear ih; exact wrap64 (by omega) (by omega)
      rw [dig64 d0 d1, d2, cond_true' (lim_ok (by rw [dch_len]; omega)), hw]
      by_cases h10 : v0.natAbs < 10
      · have : v0.tdiv 10 = 0 := by omega
        have l1 : (dg v0.natAbs).length = 1 := by rw [dg_lt h10, dch_len]
        rw [this, lp0 _ _ (by omega) _ _ (by rw [List.length_append, dch_len]; omega)]
        rw [dg_lt h10, show v0.natAbs % 10 = v0.natAbs by omega]
      · have l2 := dg_succ h10
        rw [ih _ _ (by rw [d3]; omega) (by omega) (by omega) (by rw [List.length_append, dch_len, d3]; omega) (by omega) (by omega), d3]
        rw [dg_ge h10]
        simp
    have hq : (v0.tdiv 10).natAbs = v0.natAbs / 10 := by rw [Int.natAbs_tdiv]; rfl
    have hr : (v0.tmod 10).natAbs = v0.natAbs % 10 := by rw [Int.natAbs_tmod]; rfl
    by_cases hneg : v0.tmod 10 < 0
    · have hw : IntKind.i64.wrap (0 - v0.tmod 10) = 0 - v0.tmod 10 := by clear hd ih; exact wrap64 (by omega) (by omega)
      rw [cond_true' (decide_eq_true hneg), hw]
      have k1 : 0 ≤ 0 - v0.tmod 10 := by clear hd ih; omega
      have k2 : 0 - v0.tmod 10 < 10 := by clear hd ih; omega
      have k3 : (0 - v0.tmod 10).toNat = v0.natAbs % 10 := by clear hd ih; omega
      exact hd _ k1 k2 k3 hq
    · rw [cond_false' (decide_eq_false hneg)]
      have k1 : 0 ≤ v0.tmod 10 := by clear hd ih; omega
      have k2 : v0.tmod 10 < 10 := by clear hd ih; omega
      have k3 : (v0.tmod 10).toNat = v0.natAbs % 10 := by clear hd ih; omega
      exact hd _ k1 k2 k3 hq
theorem run_s_FormatInt (p0 : Int) (h : idom p0 = true) : runF (E_s_FormatInt BIG) Try.f102 [.i .i64 p0] = some [(true, .s (fI p0))] := by
  obtain ⟨h1, h2⟩ := idom_iff.1 h
  rw [top_s_FormatInt]
  by_cases h0 : p0 = 0
  · subst h0
    rw [cond_true' (by simp)]
    refine someS ?_
    simp [fI, dg, dch, toStr]
  · have l1 := dgl (n := p0.natAbs) (by omega)
    rw [cond_false' (by simp [h0]), lp_s_FormatInt_0 _ _ _ _ _ (by unfold BIG; omega) (by omega) h0 (by simp; omega) h1 h2]
    refine someS ?_
    unfold fI
    by_cases hn : p0 < 0 <;> simp [hn]
def F_s_FormatInt : Ai.Fn := ⟨[(false, [.sc])], [(false, 1)], false, fun ds => match ds with | [.i .i64 p0] => idom p0 | _ => false, fun ds => match ds with | [.i .i64 p0] => some [(true, .s (fI p0))] | _ => none⟩
theorem fg_s_FormatInt : Try.prog.funcs[102]? = some Try.f102 := by kernel_rfl
theorem c_s_FormatInt : Ctr Try.prog 102 F_s_FormatInt := by
  refine ctr_of_run (code := Try.f102.body.getD .skip) mixed fg_s_FormatInt (by kernel_rfl) (Nat.le_of_ble_eq_true (by kernel_rfl)) (Nat.le_of_ble_eq_true (by kernel_rfl)) fun ds out hd hr => ?_
  dsimp only [F_s_FormatInt] at hd hr
  split at hd
  · simp only [Option.some.injEq] at hr
    subst hr
    exact ⟨E_s_FormatInt BIG, tys_ok tysB_ok, FnsL.nil, rfl, by kernel_rfl, by kernel_rfl, run_s_FormatInt _ hd⟩
  · cases hd
def E_i_FormatInt (fuel : Nat) : Env := ⟨tys, [(131, callFn F_i_decimal)], [], fuel, 13, 0⟩
theorem top_i_FormatInt (fuel : Nat) (p0 : Int) : runF (E_i_FormatInt fuel) Try.f106 [.i .i64 p0] =
 cond (decide (p0 < 0))
 (cond (decide (0 ≤ (IntKind.u64.wrap (0 - (IntKind.u64.wrap p0)))) && decide ((IntKind.u64.wrap (0 - (IntKind.u64.wrap p0))) < 18446744073709551616)) (cond (lim ([45].length + (dg (IntKind.u64.wrap (0 - (IntKind.u64.wrap p0))).toNat).length)) (some [(true, .s ([45] ++ (dg (IntKind.u64.wrap (0 - (IntKind.u64.wrap p0))).toNat)))]) none) none)
 (cond (decide (0 ≤ (IntKind.u64.wrap p0)) && decide ((IntKind.u64.wrap p0) < 18446744073709551616)) (some [(true, .s (dg (IntKind.u64.wrap p0).toNat))]) none) := by kernel_rfl
theorem run_i_FormatInt (p0 : Int) (h : idom p0 = true) : runF (E_i_FormatInt BIG) Try.f106 [.i .i64 p0] = some [(true, .s (fI p0))] := by
  obtain ⟨h1, h2⟩ := idom_iff.1 h
  rw [top_i_FormatInt]
  by_cases hn : p0 < 0
  · have e1 : IntKind.u64.wrap (0 - IntKind.u64.wrap p0) = ((p0.natAbs : Nat) : Int) := by
      have e2 : IntKind.u64.wrap p0 = p0 + 18446744073709551616 := by
        show p0 % 18446744073709551616 = _
        omega
      rw [e2]
      show (0 - (p0 + 18446744073709551616)) % 18446744073709551616 = _
      omega
    have e3 : ((p0.natAbs : Nat) : Int).toNat = p0.natAbs := rfl
    have l1 := dgl (n := p0.natAbs) (by omega)
    rw [cond_true' (decide_eq_true hn), e1, e3, cond_true', cond_true' (lim_ok (by simp; omega))]
    · refine someS ?_
      rw [fI, if_pos hn]
      rfl
    · simp only [Bool.and_eq_true, decide_eq_true_eq]
      omega
  · have e1 : IntKind.u64.wrap p0 = ((p0.natAbs : Nat) : Int) := by rw [wrapu64 (by omega) (by omega)]; omega
    have e3 : ((p0.natAbs : Nat) : Int).toNat = p0.natAbs := rfl
    rw [cond_false' (decide_eq_false hn), e1, e3, cond_true']
    · refine someS ?_
      rw [fI, if_neg hn]
    · simp only [Bool.and_eq_true, decide_eq_true_eq]
      omega
def F_i_FormatInt : Ai.Fn := ⟨[(false, [.sc])], [(false, 1)], false, fun ds => match ds with | [.i .i64 p0] => idom p0 | _ => false, fun ds => match ds with | [.i .i64 p0] => some [(true, .s (fI p0))] | _ => none⟩
theorem fg_i_FormatInt : Try.prog.funcs[106]? = some Try.f106 := by kernel_rfl
theorem c_i_FormatInt : Ctr Try.prog 106 F_i_FormatInt := by
  refine ctr_of_run (code := Try.f106.body.getD .skip) mixed fg_i_FormatInt (by kernel_rfl) (Nat.le_of_ble_eq_true (by kernel_rfl)) (Nat.le_of_ble_eq_true (by kernel_rfl)) fun ds out hd hr => ?_
  dsimp only [F_i_FormatInt] at hd hr
  split at hd
  · simp only [Option.some.injEq] at hr
    subst hr
    exact ⟨E_i_FormatInt BIG, tys_ok tysB_ok, FnsL.cons (fn_ok c_i_decimal) fg_i_decimal rfl rfl (FnsL.nil), rfl, by kernel_rfl, by kernel_rfl, run_i_FormatInt _ hd⟩
  · cases hd
end Go.Proofs.Ytfjdfbdiichhdaa
