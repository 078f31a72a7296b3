/-
  The library's sorting in place: exchanging two ranges, and sorting by insertion. Conditions: none.
-/
import Derived.Test.YtfjdfbdiichhdaaA3
namespace Go.Proofs.Ytfjdfbdiichhdaa
open Go Ai
set_option maxRecDepth 100000

theorem swap_loop (fuel : Nat) (A M Z : List Row) : ∀ (P2 Q2 P1 Q1 : List Row) (n : Nat), P2.length = Q2.length → P1.length = Q1.length → P2.length < n → (A ++ (Q1 ++ (P2 ++ (M ++ (P1 ++ (Q2 ++ Z)))))).length < 1099511627776 → ∀ v1 v2 v3 v10 : Int, v1 = A.length →
    v2 = (A.length + Q1.length + P2.length + M.length : Nat) → v3 = (Q1.length + P2.length : Nat) → v10 = Q1.length →
    X_z_swapRangeCmpFunc_Row_0 fuel n (A ++ (Q1 ++ (P2 ++ (M ++ (P1 ++ (Q2 ++ Z)))))) v1 v2 v3 v10 = some [(true, .sl .row (A ++ (Q1 ++ (Q2 ++ (M ++ (P1 ++ (P2 ++ Z)))))))]
  | [], [], P1, Q1, n, _, hl, hn, hb, v1, v2, v3, v10, h1, h2, h3, h4 => by
    obtain ⟨k, rfl, -⟩ := bump hn
    rw [st_z_swapRangeCmpFunc_Row_0, cond_false' (by subst h3 h4; simp)]
  | p :: P2, q :: Q2, P1, Q1, n, he, hl, hn, hb, v1, v2, v3, v10, h1, h2, h3, h4 => by
    obtain ⟨k, rfl, hk⟩ := bump hn
    simp only [List.length_append, List.length_cons] at hb he h2 h3 hk
    have hi : IntKind.i64.wrap (v1 + v10) = ((A ++ Q1).length : Nat) := by rw [wrap64 (by omega) (by omega)]; simp only [List.length_append]; omega
    have hj : IntKind.i64.wrap (v2 + v10) = ((A ++ Q1 ++ p :: P2 ++ M ++ P1).length : Nat) := by rw [wrap64 (by omega) (by omega)]; simp only [List.length_append, List.length_cons]; omega
    have hw : IntKind.i64.wrap (v10 + 1) = ((Q1 ++ [q]).length : Nat) := by rw [wrap64 (by omega) (by omega)]; simp only [List.length_append, List.length_cons, List.length_nil]; omega
    rw [st_z_swapRangeCmpFunc_Row_0, cond_true' (by subst h3 h4; simp; omega), hi, hj, hw]
    simp only [Int.toNat_natCast, Nat.zero_add]
    have e1 : A ++ (Q1 ++ (p :: P2 ++ (M ++ (P1 ++ (q :: Q2 ++ Z))))) = (A ++ Q1 ++ p :: P2 ++ M ++ P1) ++ q :: (Q2 ++ Z) := by simp
    have e2 : A ++ (Q1 ++ (p :: P2 ++ (M ++ (P1 ++ (q :: Q2 ++ Z))))) = (A ++ Q1) ++ p :: (P2 ++ (M ++ (P1 ++ (q :: Q2 ++ Z)))) := by simp
    rw [cond_true' (chk (by simp)), e1, getE_app rfl]
    simp only [Option.bind_some]
    rw [← e1, cond_true' (chk (by simp)), e2, getE_app rfl]
    simp only [Option.bind_some]
    rw [cond_true' (chk (by simp))]
    rw [set_app rfl]
    have e3 : (A ++ Q1) ++ q :: (P2 ++ (M ++ (P1 ++ (q :: Q2 ++ Z)))) = (A ++ Q1 ++ q :: P2 ++ M ++ P1) ++ q :: (Q2 ++ Z) := by simp
    have e4 : (A ++ Q1 ++ p :: P2 ++ M ++ P1).length = (A ++ Q1 ++ q :: P2 ++ M ++ P1).length := by simp
    rw [cond_true' (chk (by simp)), e3, getE_app e4, set_app e4]
    simp only [Option.bind_some]
    have ih := swap_loop fuel A M Z P2 Q2 (P1 ++ [p]) (Q1 ++ [q]) k (by simpa using he) (by simp [hl]) (by omega) (by simp only [List.length_append, List.length_cons, List.length_nil]; omega) v1 v2 v3 _ h1 (by rw [h2]; simp only [List.length_append, List.length_cons, List.length_nil]; omega) (by rw [h3]; simp only [List.length_append, List.length_cons, List.length_nil]; omega) rfl
    simp only [List.append_assoc, List.cons_append, List.nil_append, List.singleton_append] at ih ⊢
    exact ih
  | [], _ :: _, _, _, _, h, _, _, _, _, _, _, _, _, _, _, _ => by simp at h
  | _ :: _, [], _, _, _, h, _, _, _, _, _, _, _, _, _, _, _ => by simp at h

/- The ranges [a, a+n) and [b, b+n) exchanged. -/
def swapOut (l : List Row) (a b n : Nat) : List Row := l.take a ++ ((l.drop b).take n ++ ((l.drop (a + n)).take (b - a - n) ++ ((l.drop a).take n ++ l.drop (b + n))))
def swapDom (l : List Row) (a b n : Int) : Bool := decide (0 ≤ a) && decide (0 ≤ n) && decide (a + n ≤ b) && decide (b + n ≤ l.length) && small l.length
theorem cut3 {α : Type} (l : List α) {i j : Nat} (h : i ≤ j) : l.drop i = (l.drop i).take (j - i) ++ l.drop j := by
  have h1 := List.take_append_drop (j - i) (l.drop i)
  rw [List.drop_drop, show i + (j - i) = j by omega] at h1
  exact h1.symm
theorem run_z_swapRangeCmpFunc_Row (p0 : List Row) (p1 p2 p3 : Int) (h : swapDom p0 p1 p2 p3 = true) : runL (E_z_swapRangeCmpFunc_Row BIG) Try.f146 S_z_swapRangeCmpFunc_Row [.i .i64 p1, .i .i64 p2, .i .i64 p3, .sl .row p0] = some [(true, .sl .row (swapOut p0 p1.toNat p2.toNat p3.toNat))] := by
  simp only [swapDom, small, Bool.and_eq_true, decide_eq_true_eq] at h
  obtain ⟨⟨⟨⟨h1, h2⟩, h3⟩, h4⟩, h5⟩ := h
  obtain ⟨a, rfl⟩ := Int.eq_ofNat_of_zero_le h1
  obtain ⟨n, rfl⟩ := Int.eq_ofNat_of_zero_le h2
  obtain ⟨b, rfl⟩ := Int.eq_ofNat_of_zero_le (show 0 ≤ p2 by omega)
  simp only [Int.toNat_natCast]
  rw [top_z_swapRangeCmpFunc_Row]
  have h3 : a + n ≤ b := by omega
  have h4 : b + n ≤ p0.length := by omega
  have e : p0 = p0.take a ++ ([] ++ ((p0.drop a).take n ++ ((p0.drop (a + n)).take (b - a - n) ++ ([] ++ ((p0.drop b).take n ++ p0.drop (b + n)))))) := by
    have h6 := cut3 p0 (show a ≤ a + n by omega)
    have h7 := cut3 p0 h3
    have h8 := cut3 p0 (show b ≤ b + n by omega)
    rw [show a + n - a = n by omega] at h6
    rw [show b - (a + n) = b - a - n by omega] at h7
    rw [show b + n - b = n by omega] at h8
    rw [List.nil_append, List.nil_append, ← h8, ← h7, ← h6, List.take_append_drop]
  have hlp : ((p0.drop a).take n).length = n := by simp; omega
  have hlq : ((p0.drop b).take n).length = n := by simp; omega
  have := swap_loop BIG (p0.take a) ((p0.drop (a + n)).take (b - a - n)) (p0.drop (b + n)) ((p0.drop a).take n) ((p0.drop b).take n) [] [] BIG (by rw [hlp, hlq]) rfl (by rw [hlp]; unfold BIG; omega) (by rw [← e]; exact h5)
    a b n 0 (by simp; omega) (by simp; omega) (by simp; omega) rfl
  rw [← e] at this
  exact this
def F_z_swapRangeCmpFunc_Row : FnL := { S_z_swapRangeCmpFunc_Row with dom := fun ds => match ds with | [.i .i64 p1, .i .i64 p2, .i .i64 p3, .sl .row p0] => swapDom p0 p1 p2 p3 | _ => false, run := fun ds => match ds with | [.i .i64 p1, .i .i64 p2, .i .i64 p3, .sl .row p0] => some [(true, .sl .row (swapOut p0 p1.toNat p2.toNat p3.toNat))] | _ => none }
theorem fg_z_swapRangeCmpFunc_Row : Try.prog.funcs[146]? = some Try.f146 := by kernel_rfl
theorem c_z_swapRangeCmpFunc_Row : FnOK Try.prog 146 (callL F_z_swapRangeCmpFunc_Row) := by
  refine fnok_of_runL (code := Try.f146.body.getD .skip) mixed fg_z_swapRangeCmpFunc_Row (by kernel_rfl) (Nat.le_of_ble_eq_true (by kernel_rfl)) (Nat.le_of_ble_eq_true (by kernel_rfl)) fun ds out hd hr => ?_
  dsimp only [F_z_swapRangeCmpFunc_Row] at hd hr
  split at hd
  · simp only [Option.some.injEq] at hr
    subst hr
    exact ⟨E_z_swapRangeCmpFunc_Row BIG, tys_ok tysB_ok, FnsL.nil, rfl, rfl, by kernel_rfl, (runL_congr (S := S_z_swapRangeCmpFunc_Row) rfl rfl rfl).trans (run_z_swapRangeCmpFunc_Row _ _ _ _ hd)⟩
  · cases hd
end Go.Proofs.Ytfjdfbdiichhdaa
