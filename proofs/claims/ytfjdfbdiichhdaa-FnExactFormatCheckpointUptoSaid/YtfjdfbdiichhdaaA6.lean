/-
  The library's sorting in place: two neighbouring ranges exchanged. Conditions: none.
-/
import Derived.Test.YtfjdfbdiichhdaaA5
namespace Go.Proofs.Ytfjdfbdiichhdaa
open Go Ai
set_option maxRecDepth 100000

theorem swapOut_app (A P M Q Z : List Row) {a b n : Nat} (ha : a = A.length) (hb : b = A.length + P.length + M.length) (hn : n = P.length) (hq : n = Q.length) : swapOut (A ++ (P ++ (M ++ (Q ++ Z)))) a b n = A ++ (Q ++ (M ++ (P ++ Z))) := by
  unfold swapOut
  have h1 : (A ++ (P ++ (M ++ (Q ++ Z)))).take a = A := by rw [List.take_left' ha.symm]
  have h2 : (A ++ (P ++ (M ++ (Q ++ Z)))).drop a = P ++ (M ++ (Q ++ Z)) := by rw [List.drop_left' ha.symm]
  have h3 : (A ++ (P ++ (M ++ (Q ++ Z)))).drop b = Q ++ Z := by
    have : A ++ (P ++ (M ++ (Q ++ Z))) = (A ++ P ++ M) ++ (Q ++ Z) := by simp
    rw [this, List.drop_left' (by simp only [List.length_append]; omega)]
  have h4 : (A ++ (P ++ (M ++ (Q ++ Z)))).drop (a + n) = M ++ (Q ++ Z) := by
    have : A ++ (P ++ (M ++ (Q ++ Z))) = (A ++ P) ++ (M ++ (Q ++ Z)) := by simp
    rw [this, List.drop_left' (by simp only [List.length_append]; omega)]
  have h5 : (A ++ (P ++ (M ++ (Q ++ Z)))).drop (b + n) = Z := by
    have : A ++ (P ++ (M ++ (Q ++ Z))) = (A ++ P ++ M ++ Q) ++ Z := by simp
    rw [this, List.drop_left' (by simp only [List.length_append]; omega)]
  rw [h1, h2, h3, h4, h5, List.take_left' hq.symm, List.take_left' hn.symm, List.take_left' (by omega)]
theorem swapDom_ok {l : List Row} {a b n : Int} (ha : 0 ≤ a) (hn : 0 ≤ n) (hab : a + n ≤ b) (hb : b + n ≤ l.length) (hl : l.length < 1099511627776) : swapDom l a b n = true := by
  simp only [swapDom, small, Bool.and_eq_true, decide_eq_true_eq]; omega

theorem rot_loop (fuel : Nat) : ∀ (s : Nat) (A U V Z : List Row) (n : Nat), U.length + V.length ≤ s → 0 < U.length → 0 < V.length → s < n → (A ++ (U ++ (V ++ Z))).length < 1099511627776 → ∀ v2 v10 v11 : Int, v2 = (A.length + U.length : Nat) → v10 = U.length → v11 = V.length →
    X_z_rotateCmpFunc_Row_0 fuel n (A ++ (U ++ (V ++ Z))) v2 v10 v11 = some [(true, .sl .row (A ++ (V ++ (U ++ Z))))] := by
  intro s
  induction s with
  | zero => intro A U V Z n hs hU; omega
  | succ s ih =>
    intro A U V Z n hs hU hV hn hb v2 v10 v11 h2 h10 h11
    obtain ⟨k, rfl, hk⟩ := bump hn
    have hb' := hb
    simp only [List.length_append] at hb
    have w1 : IntKind.i64.wrap (v2 - v10) = (A.length : Nat) := by rw [wrap64 (by omega) (by omega)]; omega
    rw [st_z_rotateCmpFunc_Row_0, w1]
    by_cases he : U.length = V.length
    · have e1 : A ++ (U ++ (V ++ Z)) = A ++ (U ++ ([] ++ (V ++ Z))) := rfl
      rw [cond_false' (by subst h10 h11; simp [he]), cond_true' (swapDom_ok (by omega) (by omega) (by omega) (by simp only [List.length_append]; omega) hb')]
      subst h2 h10
      rw [e1, swapOut_app A U [] V Z (by omega) (by simp only [List.length_nil]; omega) (by omega) (by omega)]
      rfl
    · rw [cond_true' (by subst h10 h11; simp; omega)]
      by_cases hlt : V.length < U.length
      · obtain ⟨U1, U2, rfl, hU1⟩ : ∃ U1 U2, U = U1 ++ U2 ∧ U1.length = V.length := ⟨U.take V.length, U.drop V.length, (List.take_append_drop _ _).symm, by simp; omega⟩
        simp only [List.length_append] at hs hU h2 h10 hlt hb
        rw [cond_true' (by subst h10 h11; simp; omega), cond_true' (swapDom_ok (by omega) (by omega) (by omega) (by simp only [List.length_append]; omega) hb')]
        have e1 : A ++ (U1 ++ U2 ++ (V ++ Z)) = A ++ (U1 ++ (U2 ++ (V ++ Z))) := by simp
        rw [e1, swapOut_app A U1 U2 V Z (by omega) (by omega) (by omega) (by omega)]
        have := ih (A ++ V) U2 U1 Z k (by omega) (by omega) (by omega) (by omega) (by simp only [List.length_append]; omega) v2 (IntKind.i64.wrap (v10 - v11)) v11 (by rw [h2]; simp only [List.length_append]; omega) (by rw [wrap64 (by omega) (by omega)]; omega) (by omega)
        simp only [List.append_assoc] at this ⊢
        exact this
      · obtain ⟨V1, V2, rfl, hV2⟩ : ∃ V1 V2, V = V1 ++ V2 ∧ V2.length = U.length := ⟨V.take (V.length - U.length), V.drop (V.length - U.length), (List.take_append_drop _ _).symm, by simp; omega⟩
        simp only [List.length_append] at hs hV h11 hlt hb he
        have w2 : IntKind.i64.wrap (IntKind.i64.wrap (v2 + v11) - v10) = (A.length + U.length + V1.length : Nat) := by rw [wrap64 (n := v2 + v11) (by omega) (by omega), wrap64 (by omega) (by omega)]; omega
        rw [w2]
        rw [cond_false' (by subst h10 h11; simp; omega), cond_true' (swapDom_ok (by omega) (by omega) (by omega) (by simp only [List.length_append]; omega) hb')]
        have e1 : A ++ (U ++ (V1 ++ V2 ++ Z)) = A ++ (U ++ (V1 ++ (V2 ++ Z))) := by simp
        rw [e1, swapOut_app A U V1 V2 Z (by omega) (by omega) (by omega) (by omega)]
        have := ih A V2 V1 (U ++ Z) k (by omega) (by omega) (by omega) (by omega) (by simp only [List.length_append]; omega) v2 v10 (IntKind.i64.wrap (v11 - v10)) (by omega) (by omega) (by rw [wrap64 (by omega) (by omega)]; omega)
        rw [this]
        simp only [List.append_assoc]

/- [a, m) and [m, b) exchanged. -/
def rotOut (l : List Row) (a m b : Nat) : List Row := l.take a ++ ((l.drop m).take (b - m) ++ ((l.drop a).take (m - a) ++ l.drop b))
def rotDom (l : List Row) (a m b : Int) : Bool := decide (0 ≤ a) && decide (a < m) && decide (m < b) && decide (b ≤ l.length) && small l.length
theorem run_z_rotateCmpFunc_Row (p0 : List Row) (p1 p2 p3 : Int) (h : rotDom p0 p1 p2 p3 = true) : runL (E_z_rotateCmpFunc_Row BIG) Try.f141 S_z_rotateCmpFunc_Row [.i .i64 p1, .i .i64 p2, .i .i64 p3, .sl .row p0] = some [(true, .sl .row (rotOut p0 p1.toNat p2.toNat p3.toNat))] := by
  simp only [rotDom, small, Bool.and_eq_true, decide_eq_true_eq] at h
  obtain ⟨⟨⟨⟨h1, h2⟩, h3⟩, h4⟩, h5⟩ := h
  obtain ⟨a, rfl⟩ := Int.eq_ofNat_of_zero_le h1
  obtain ⟨m, rfl⟩ := Int.eq_ofNat_of_zero_le (show 0 ≤ p2 by omega)
  obtain ⟨b, rfl⟩ := Int.eq_ofNat_of_zero_le (show 0 ≤ p3 by omega)
  simp only [Int.toNat_natCast]
  rw [top_z_rotateCmpFunc_Row]
  have e : p0 = p0.take a ++ ((p0.drop a).take (m - a) ++ ((p0.drop m).take (b - m) ++ p0.drop b)) := by
    rw [← cut3 p0 (show m ≤ b by omega), ← cut3 p0 (show a ≤ m by omega), List.take_append_drop]
  have l1 : (p0.take a).length = a := by simp; omega
  have l2 : ((p0.drop a).take (m - a)).length = m - a := by simp; omega
  have l3 : ((p0.drop m).take (b - m)).length = b - m := by simp; omega
  have := rot_loop BIG (b - a) (p0.take a) ((p0.drop a).take (m - a)) ((p0.drop m).take (b - m)) (p0.drop b) BIG (by omega) (by omega) (by omega) (by unfold BIG; omega) (by rw [← e]; exact h5) m (IntKind.i64.wrap (m - a)) (IntKind.i64.wrap (b - m))
    (by omega) (by rw [wrap64 (by omega) (by omega)]; omega) (by rw [wrap64 (by omega) (by omega)]; omega)
  rw [← e] at this
  exact this
def F_z_rotateCmpFunc_Row : FnL := { S_z_rotateCmpFunc_Row with dom := fun ds => match ds with | [.i .i64 p1, .i .i64 p2, .i .i64 p3, .sl .row p0] => rotDom p0 p1 p2 p3 | _ => false, run := fun ds => match ds with | [.i .i64 p1, .i .i64 p2, .i .i64 p3, .sl .row p0] => some [(true, .sl .row (rotOut p0 p1.toNat p2.toNat p3.toNat))] | _ => none }
theorem fg_z_rotateCmpFunc_Row : Try.prog.funcs[141]? = some Try.f141 := by kernel_rfl
theorem c_z_rotateCmpFunc_Row : FnOK Try.prog 141 (callL F_z_rotateCmpFunc_Row) := by
  refine fnok_of_runL (code := Try.f141.body.getD .skip) mixed fg_z_rotateCmpFunc_Row (by kernel_rfl) (Nat.le_of_ble_eq_true (by kernel_rfl)) (Nat.le_of_ble_eq_true (by kernel_rfl)) fun ds out hd hr => ?_
  dsimp only [F_z_rotateCmpFunc_Row] at hd hr
  split at hd
  · simp only [Option.some.injEq] at hr
    subst hr
    exact ⟨E_z_rotateCmpFunc_Row BIG, tys_ok tysB_ok, FnsL.cons (c_z_swapRangeCmpFunc_Row) fg_z_swapRangeCmpFunc_Row rfl rfl (FnsL.nil), rfl, rfl, by kernel_rfl, (runL_congr (S := S_z_rotateCmpFunc_Row) rfl rfl rfl).trans (run_z_rotateCmpFunc_Row _ _ _ _ hd)⟩
  · cases hd
end Go.Proofs.Ytfjdfbdiichhdaa
