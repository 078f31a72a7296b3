/-
  The library's sorting in place: sorting by insertion. Conditions: none.
-/
import Derived.Test.YtfjdfbdiichhdaaA4
namespace Go.Proofs.Ytfjdfbdiichhdaa
open Go Ai
set_option maxRecDepth 100000

theorem ins_inner (fuel : Nat) (A T : List Row) (y : Row) : ∀ (k : Nat) (S1 S2 : List Row) (n n0 : Nat), S1.length = k → SortedR (S1 ++ S2) → (∀ z ∈ S2, ¬ leR z y) → k < n → (A ++ ((S1 ++ y :: S2) ++ T)).length < 1099511627776 → ∀ v1 v2 v8 v9 : Int, v1 = A.length → v9 = (A.length + S1.length : Nat) →
    ∃ S', S'.Perm (y :: (S1 ++ S2)) ∧ SortedR S' ∧ X_z_insertionSortCmpFunc_Row_2 fuel n n0 (A ++ ((S1 ++ y :: S2) ++ T)) v1 v2 v8 v9 = X_z_insertionSortCmpFunc_Row_0 fuel n0 (A ++ (S' ++ T)) v1 v2 (IntKind.i64.wrap (v8 + 1)) := by
  intro k
  induction k with
  | zero =>
    intro S1 S2 n n0 hk hs hy hn hb v1 v2 v8 v9 h1 h9
    obtain rfl := List.length_eq_zero_iff.1 hk
    obtain ⟨j, rfl, -⟩ := bump hn
    refine ⟨y :: S2, .refl _, ?_, ?_⟩
    · exact List.pairwise_cons.2 ⟨fun z hz => (leR_total y z).resolve_right (hy z hz), hs⟩
    · rw [st_z_insertionSortCmpFunc_Row_2, cond_false' (by subst h1 h9; simp)]
      rfl
  | succ k ih =>
    intro S1 S2 n n0 hk hs hy hn hb v1 v2 v8 v9 h1 h9
    obtain ⟨j, rfl, hj⟩ := bump hn
    obtain ⟨S, z, rfl⟩ : ∃ S z, S1 = S ++ [z] := by
      rcases List.eq_nil_or_concat S1 with e | ⟨S, z, e⟩
      · subst e; simp at hk
      · exact ⟨S, z, by simpa using e⟩
    have hkS : S.length = k := by simpa using hk
    have e1 : A ++ ((S ++ [z] ++ y :: S2) ++ T) = (A ++ S) ++ z :: y :: (S2 ++ T) := by simp
    simp only [List.length_append, List.length_cons, List.length_nil] at hb h9
    have hv : v9 = ((A ++ S).length + 1 : Nat) := by rw [h9]; simp only [List.length_append]; omega
    have hw : IntKind.i64.wrap (v9 - 1) = ((A ++ S).length : Nat) := by rw [wrap64 (by omega) (by omega)]; simp only [List.length_append]; omega
    rw [st_z_insertionSortCmpFunc_Row_2, cond_true' (by subst h1 h9; simp; omega), hw, hv, e1]
    simp only [Int.toNat_natCast, Nat.zero_add, two_g1, two_g0, two_c0, two_c1, Option.bind_some, cond_true, two_s1, two_s0]
    by_cases hc : leR z y
    · rw [cond_false' (by
        have : ¬ cmpR y z < 0 := fun h => cmp_lt.1 h hc
        simpa [cmpR] using this), ← e1]
      refine ⟨S ++ [z] ++ y :: S2, List.perm_middle, ?_, rfl⟩
      refine sorted_append.2 ⟨(sorted_append.1 hs).1, List.pairwise_cons.2 ⟨fun s hs' => (leR_total y s).resolve_right (hy s hs'), (sorted_append.1 hs).2.1⟩, fun a ha b hb' => ?_⟩
      rcases List.mem_cons.1 hb' with rfl | hb'
      · have haz : leR a z := by
          rcases List.mem_append.1 ha with ha | ha
          · exact (sorted_append.1 (sorted_append.1 hs).1).2.2 a ha z (by simp)
          · simp at ha; subst ha; exact leR_refl _
        exact leR_trans haz hc
      · exact (sorted_append.1 hs).2.2 a ha b hb'
    · rw [cond_true' (by
        have : cmpR y z < 0 := cmp_lt.2 hc
        simpa [cmpR] using this)]
      have e3 : (A ++ S) ++ y :: (z :: (S2 ++ T)) = A ++ ((S ++ y :: (z :: S2)) ++ T) := by simp
      obtain ⟨S', p1, p2, p3⟩ := ih S (z :: S2) j n0 hkS (by simpa using hs) (fun s hs' => by
        rcases List.mem_cons.1 hs' with rfl | hs'
        · exact hc
        · exact hy s hs') (by omega) (by rw [← e3]; simp only [List.length_append, List.length_cons]; omega) v1 v2 v8 ((A ++ S).length : Nat) h1 (by simp)
      refine ⟨S', p1.trans ?_, p2, ?_⟩
      · simp
      · have e4 : (A ++ S) ++ (⟨y.k, y.v, y.w⟩ : Row) :: ((⟨z.k, z.v, z.w⟩ : Row) :: (S2 ++ T)) = A ++ ((S ++ y :: (z :: S2)) ++ T) := e3
        rw [← p3]
        congr 1

theorem ins_outer (fuel : Nat) (hf : 1099511627776 ≤ fuel) (A Z : List Row) : ∀ (T1 S : List Row) (n : Nat), SortedR S → T1.length < n → (A ++ (S ++ (T1 ++ Z))).length < 1099511627776 → ∀ v1 v2 v8 : Int, v1 = A.length → v8 = (A.length + S.length : Nat) → v2 = (A.length + S.length + T1.length : Nat) →
    X_z_insertionSortCmpFunc_Row_0 fuel n (A ++ (S ++ (T1 ++ Z))) v1 v2 v8 = some [(true, .sl .row (A ++ (sortR (S ++ T1) ++ Z)))]
  | [], S, n, hs, hn, hb, v1, v2, v8, h1, h8, h2 => by
    obtain ⟨k, rfl, -⟩ := bump hn
    rw [st_z_insertionSortCmpFunc_Row_0, cond_false' (by subst h2 h8; simp)]
    simp [sortR_of_sorted hs]
  | y :: T1, S, n, hs, hn, hb, v1, v2, v8, h1, h8, h2 => by
    obtain ⟨k, rfl, hk⟩ := bump hn
    simp only [List.length_append, List.length_cons] at hb h2 hk
    rw [st_z_insertionSortCmpFunc_Row_0, cond_true' (by subst h2 h8; simp; omega)]
    obtain ⟨S', p1, p2, p3⟩ := ins_inner fuel A (T1 ++ Z) y S.length S [] fuel k rfl (by simpa using hs) (by simp) (by omega) (by simp; omega) v1 v2 v8 v8 h1 h8
    have e1 : A ++ ((S ++ [y]) ++ (T1 ++ Z)) = A ++ (S ++ (y :: T1 ++ Z)) := by simp
    rw [e1] at p3
    rw [p3]
    have hl : S'.length = S.length + 1 := by rw [p1.length_eq]; simp
    rw [ins_outer fuel hf A Z T1 S' k p2 (by omega) (by simp; omega) v1 v2 _ h1 (by rw [wrap64 (by omega) (by omega)]; omega) (by omega)]
    rw [sortR_congr (l := S' ++ T1) (l' := S ++ y :: T1)]
    refine (p1.append_right T1).trans ?_
    simp only [List.append_nil, List.cons_append]
    exact List.perm_middle.symm

/- The range [a, b) sorted. -/
def sortOut (l : List Row) (a b : Nat) : List Row := l.take a ++ (sortR ((l.drop a).take (b - a)) ++ l.drop b)
def sortDom (l : List Row) (a b : Int) : Bool := decide (0 ≤ a) && decide (a ≤ b) && decide (b ≤ l.length) && small l.length
theorem run_z_insertionSortCmpFunc_Row (p0 : List Row) (p1 p2 : Int) (h : sortDom p0 p1 p2 = true) : runL (E_z_insertionSortCmpFunc_Row BIG) Try.f135 S_z_insertionSortCmpFunc_Row [.i .i64 p1, .i .i64 p2, .sl .row p0] = some [(true, .sl .row (sortOut p0 p1.toNat p2.toNat))] := by
  simp only [sortDom, small, Bool.and_eq_true, decide_eq_true_eq] at h
  obtain ⟨⟨⟨h1, h2⟩, h3⟩, h4⟩ := h
  obtain ⟨a, rfl⟩ := Int.eq_ofNat_of_zero_le h1
  obtain ⟨b, rfl⟩ := Int.eq_ofNat_of_zero_le (show 0 ≤ p2 by omega)
  simp only [Int.toNat_natCast]
  rw [top_z_insertionSortCmpFunc_Row]
  have hab : a ≤ b := by omega
  have e : p0 = p0.take a ++ ((p0.drop a).take (b - a) ++ p0.drop b) := by rw [← cut3 p0 hab, List.take_append_drop]
  unfold sortOut
  generalize hS : (p0.drop a).take (b - a) = S at e ⊢
  have hSl : S.length = b - a := by rw [← hS]; simp; omega
  have hAl : (p0.take a).length = a := by simp; omega
  cases S with
  | nil =>
    have hab' : b = a := by simp at hSl; omega
    obtain ⟨k, hk⟩ : ∃ k, BIG = k + 1 := ⟨17592186044415, rfl⟩
    rw [show (BIG : Nat) = k + 1 from hk, st_z_insertionSortCmpFunc_Row_0, cond_false' (by rw [wrap64 (by omega) (by omega)]; simp; omega)]
    have : sortR [] = [] := rfl
    rw [this, ← e]
  | cons x S =>
    have := ins_outer BIG (by unfold BIG; omega) (p0.take a) (p0.drop b) S [x] BIG (by simp) (by simp at hSl; unfold BIG; omega) (by
        have e' := congrArg List.length e
        simp at e' ⊢; omega) a b (IntKind.i64.wrap (a + 1)) (by rw [hAl])
      (by rw [wrap64 (by omega) (by omega), hAl]; simp) (by rw [hAl]; simp at hSl ⊢; omega)
    have e2 : p0.take a ++ ([x] ++ (S ++ p0.drop b)) = p0 := by rw [← List.append_assoc [x] S]; exact e.symm
    rw [e2] at this
    exact this
def F_z_insertionSortCmpFunc_Row : FnL := { S_z_insertionSortCmpFunc_Row with dom := fun ds => match ds with | [.i .i64 p1, .i .i64 p2, .sl .row p0] => sortDom p0 p1 p2 | _ => false, run := fun ds => match ds with | [.i .i64 p1, .i .i64 p2, .sl .row p0] => some [(true, .sl .row (sortOut p0 p1.toNat p2.toNat))] | _ => none }
theorem fg_z_insertionSortCmpFunc_Row : Try.prog.funcs[135]? = some Try.f135 := by kernel_rfl
theorem c_z_insertionSortCmpFunc_Row : FnOK Try.prog 135 (callL F_z_insertionSortCmpFunc_Row) := by
  refine fnok_of_runL (code := Try.f135.body.getD .skip) mixed fg_z_insertionSortCmpFunc_Row (by kernel_rfl) (Nat.le_of_ble_eq_true (by kernel_rfl)) (Nat.le_of_ble_eq_true (by kernel_rfl)) fun ds out hd hr => ?_
  dsimp only [F_z_insertionSortCmpFunc_Row] at hd hr
  split at hd
  · simp only [Option.some.injEq] at hr
    subst hr
    exact ⟨E_z_insertionSortCmpFunc_Row BIG, tys_ok tysB_ok, FnsL.cons (fn_ok c_i_CompareRows) fg_i_CompareRows rfl rfl (FnsL.nil), rfl, rfl, by kernel_rfl, (runL_congr (S := S_z_insertionSortCmpFunc_Row) rfl rfl rfl).trans (run_z_insertionSortCmpFunc_Row _ _ _ hd)⟩
  · cases hd
def S_z_rotateCmpFunc_Row : FnL := ⟨[.en (.sl .row), .dp false [.sc], .dp false [.sc], .dp false [.sc], .cl 85 []], [], false, fun _ => false, fun _ => none⟩
def E_z_rotateCmpFunc_Row (fuel : Nat) : Env := ⟨tys, [(146, callL F_z_swapRangeCmpFunc_Row)], [(0, ([(0, .a .row 58), (2, .p), (4, .p), (10, .p), (11, .p)], 59))], fuel, 58, 1⟩
noncomputable def X_z_rotateCmpFunc_Row_0 (fuel : Nat) (n : Nat)  (v0 : List Row) (v2 : Int) (v10 : Int) (v11 : Int) : Res := loopL (E_z_rotateCmpFunc_Row fuel) Try.f141 S_z_rotateCmpFunc_Row [1, 1, 0] [] n ⟨upds (fun _ => cU) [(0, .av (.one (.ls 58 0 none))), (58, .arr .row true v0), (2, .av (.one (.d (.i .i64 v2)))), (4, .av (.clo 85 [])), (10, .av (.one (.d (.i .i64 v10)))), (11, .av (.one (.d (.i .i64 v11))))], 59⟩
theorem top_z_rotateCmpFunc_Row (fuel : Nat) (p1 : Int) (p2 : Int) (p3 : Int) (p0 : List Row) : runL (E_z_rotateCmpFunc_Row fuel) Try.f141 S_z_rotateCmpFunc_Row [.i .i64 p1, .i .i64 p2, .i .i64 p3, .sl .row p0] =
 X_z_rotateCmpFunc_Row_0 fuel fuel p0 p2 (IntKind.i64.wrap (p2 - p1)) (IntKind.i64.wrap (p3 - p2)) := by kernel_rfl
theorem st_z_rotateCmpFunc_Row_0 (fuel : Nat) (n : Nat)  (v0 : List Row) (v2 : Int) (v10 : Int) (v11 : Int) : X_z_rotateCmpFunc_Row_0 fuel (n + 1) v0 v2 v10 v11 =
 cond (!decide (v10 = v11))
 (cond (decide (v10 > v11))
 (cond (swapDom v0 (IntKind.i64.wrap (v2 - v10)) v2 v11) (X_z_rotateCmpFunc_Row_0 fuel n (swapOut v0 (IntKind.i64.wrap (v2 - v10)).toNat v2.toNat v11.toNat) v2 (IntKind.i64.wrap (v10 - v11)) v11) none)
 (cond (swapDom v0 (IntKind.i64.wrap (v2 - v10)) (IntKind.i64.wrap ((IntKind.i64.wrap (v2 + v11)) - v10)) v10) (X_z_rotateCmpFunc_Row_0 fuel n (swapOut v0 (IntKind.i64.wrap (v2 - v10)).toNat (IntKind.i64.wrap ((IntKind.i64.wrap (v2 + v11)) - v10)).toNat v10.toNat) v2 v10 (IntKind.i64.wrap (v11 - v10))) none))
 (cond (swapDom v0 (IntKind.i64.wrap (v2 - v10)) v2 v10) (some [(true, .sl .row (swapOut v0 (IntKind.i64.wrap (v2 - v10)).toNat v2.toNat v10.toNat))]) none) := by kernel_rfl
end Go.Proofs.Ytfjdfbdiichhdaa
