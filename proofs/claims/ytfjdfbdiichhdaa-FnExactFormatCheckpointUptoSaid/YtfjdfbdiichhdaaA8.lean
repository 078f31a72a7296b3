/-
  The library's sorting in place: the merge's contract, and the stable sort of at most 39 rows. Conditions: none.
-/
import Derived.Test.YtfjdfbdiichhdaaA7
namespace Go.Proofs.Ytfjdfbdiichhdaa
open Go Ai
set_option maxRecDepth 100000

theorem get_mid {α : Type} (A Q Z : List α) {i j : Nat} (h : i < Q.length) (hj : j = A.length + i) : (A ++ (Q ++ Z))[j]? = Q[i]? := by
  subst hj
  rw [List.getElem?_append_right (by omega), Nat.add_sub_cancel_left, List.getElem?_append_left h]
theorem sortOut_app (A M Z : List Row) {a b : Nat} (ha : a = A.length) (hb : b = A.length + M.length) : sortOut (A ++ (M ++ Z)) a b = A ++ (sortR M ++ Z) := by
  unfold sortOut
  have h1 : (A ++ (M ++ Z)).drop b = Z := by
    rw [← List.append_assoc, List.drop_left' (by simp only [List.length_append]; omega)]
  rw [List.take_left' ha.symm, List.drop_left' ha.symm, h1, List.take_left' (by omega)]
theorem rotOut_app (A P Q Z : List Row) {a m b : Nat} (ha : a = A.length) (hm : m = A.length + P.length) (hb : b = A.length + P.length + Q.length) : rotOut (A ++ (P ++ (Q ++ Z))) a m b = A ++ (Q ++ (P ++ Z)) := by
  unfold rotOut
  have h1 : (A ++ (P ++ (Q ++ Z))).drop b = Z := by
    have : A ++ (P ++ (Q ++ Z)) = (A ++ P ++ Q) ++ Z := by simp
    rw [this, List.drop_left' (by simp only [List.length_append]; omega)]
  have h2 : (A ++ (P ++ (Q ++ Z))).drop m = Q ++ Z := by
    have : A ++ (P ++ (Q ++ Z)) = (A ++ P) ++ (Q ++ Z) := by simp
    rw [this, List.drop_left' (by simp only [List.length_append]; omega)]
  rw [List.take_left' ha.symm, List.drop_left' ha.symm, h1, h2, List.take_left' (by omega), List.take_left' (by omega)]
theorem mergeDom_app (A P Q Z : List Row) {a m b : Int} (ha : a = A.length) (hm : m = (A.length + P.length : Nat)) (hb : b = (A.length + P.length + Q.length : Nat)) (hP : 0 < P.length) (hQ : 0 < Q.length) (hs : (A ++ (P ++ (Q ++ Z))).length < 1099511627776) (sP : SortedR P) (sQ : SortedR Q) :
    mergeDom (A ++ (P ++ (Q ++ Z))) a m b = true := by
  subst ha hm hb
  have h2 : (A ++ (P ++ (Q ++ Z))).drop (A.length + P.length) = Q ++ Z := by
    have : A ++ (P ++ (Q ++ Z)) = (A ++ P) ++ (Q ++ Z) := by simp
    rw [this, List.drop_left' (by simp only [List.length_append])]
  simp only [mergeDom, small, Bool.and_eq_true, decide_eq_true_eq, Int.toNat_natCast]
  refine ⟨⟨⟨⟨⟨⟨by omega, by omega⟩, by omega⟩, by simp only [List.length_append]; omega⟩, hs⟩, ?_⟩, ?_⟩
  · rw [List.drop_left' rfl, List.take_left' (by omega)]; exact sortedB_iff.2 sP
  · rw [h2, List.take_left' (by omega)]; exact sortedB_iff.2 sQ

theorem t2_ok (rb : Nat) (A P Q Z : List Row) {v3 v18 e : Int} (h18 : v18 = A.length) (he : e = (A.length + P.length : Nat)) (h3 : v3 = (A.length + P.length + Q.length : Nat)) (hrb : P.length + Q.length < rb) (hs : (A ++ (P ++ (Q ++ Z))).length < 1099511627776) (sP : SortedR P) (sQ : SortedR Q) :
    t2 rb v3 v18 e (A ++ (P ++ (Q ++ Z))) = some [(true, .sl .row (A ++ (sortR (P ++ Q) ++ Z)))] := by
  unfold t2
  have e1 : A ++ (P ++ (Q ++ Z)) = A ++ ((P ++ Q) ++ Z) := by simp
  by_cases hP : 0 < P.length
  · rw [cond_true' (by subst h18 he; simp; omega)]
    by_cases hQ : 0 < Q.length
    · rw [cond_true' (by subst he h3; simp; omega), cond_true' (by
        rw [mergeDom_app A P Q Z h18 he h3 hP hQ hs sP sQ]
        subst h18 h3; simp; omega), e1, sortOut_app A (P ++ Q) Z (by omega) (by simp only [List.length_append]; omega)]
    · obtain rfl : Q = [] := List.length_eq_zero_iff.1 (by omega)
      rw [cond_false' (by subst he h3; simp)]
      simp [sortR_of_sorted sP]
  · obtain rfl : P = [] := List.length_eq_zero_iff.1 (by omega)
    rw [cond_false' (by subst h18 he; simp)]
    simp [sortR_of_sorted sQ]
theorem t1_ok (rb : Nat) (A P Q T : List Row) {v1 v20 v3 v18 e : Int} (h1 : v1 = A.length) (h20 : v20 = (A.length + P.length : Nat)) (h18 : v18 = (A.length + P.length + Q.length : Nat)) (hrb : P.length + Q.length < rb) (hs : (A ++ (P ++ (Q ++ T))).length < 1099511627776) (sP : SortedR P) (sQ : SortedR Q) :
    t1 rb v1 v20 v3 v18 e (A ++ (P ++ (Q ++ T))) = t2 rb v3 v18 e (A ++ (sortR (P ++ Q) ++ T)) := by
  unfold t1
  have e1 : A ++ (P ++ (Q ++ T)) = A ++ ((P ++ Q) ++ T) := by simp
  by_cases hP : 0 < P.length
  · rw [cond_true' (by subst h1 h20; simp; omega)]
    by_cases hQ : 0 < Q.length
    · rw [cond_true' (by subst h20 h18; simp; omega), cond_true' (by
        rw [mergeDom_app A P Q T h1 h20 h18 hP hQ hs sP sQ]
        subst h1 h18; simp; omega), e1, sortOut_app A (P ++ Q) T (by omega) (by simp only [List.length_append]; omega)]
    · obtain rfl : Q = [] := List.length_eq_zero_iff.1 (by omega)
      rw [cond_false' (by subst h20 h18; simp)]
      simp [sortR_of_sorted sP]
  · obtain rfl : P = [] := List.length_eq_zero_iff.1 (by omega)
    rw [cond_false' (by subst h1 h20; simp)]
    simp [sortR_of_sorted sQ]
theorem t0_ok (rb : Nat) (A P1 P2 Q1 Q2 Z : List Row) {v1 v2 v20 v3 v18 e : Int} (h1 : v1 = A.length) (h20 : v20 = (A.length + P1.length : Nat)) (h2 : v2 = (A.length + P1.length + P2.length : Nat)) (he : e = (A.length + P1.length + P2.length + Q1.length : Nat))
    (h3 : v3 = (A.length + P1.length + P2.length + Q1.length + Q2.length : Nat)) (h18 : v18 = (A.length + P1.length + Q1.length : Nat)) (hrb1 : P1.length + Q1.length < rb) (hrb2 : P2.length + Q2.length < rb)
    (hs : (A ++ (P1 ++ (P2 ++ (Q1 ++ (Q2 ++ Z))))).length < 1099511627776) (sP : SortedR (P1 ++ P2)) (sQ : SortedR (Q1 ++ Q2)) (hPQ : ∀ x ∈ P1, ∀ y ∈ Q2, leR x y) (hQP : ∀ x ∈ Q1, ∀ y ∈ P2, leR x y) :
    t0 rb v1 v2 v20 v3 v18 e (A ++ (P1 ++ (P2 ++ (Q1 ++ (Q2 ++ Z))))) = some [(true, .sl .row (A ++ (sortR ((P1 ++ P2) ++ (Q1 ++ Q2)) ++ Z)))] := by
  have hrot : t0 rb v1 v2 v20 v3 v18 e (A ++ (P1 ++ (P2 ++ (Q1 ++ (Q2 ++ Z))))) = t1 rb v1 v20 v3 v18 e (A ++ (P1 ++ (Q1 ++ (P2 ++ (Q2 ++ Z))))) := by
    unfold t0
    by_cases hP : 0 < P2.length
    · rw [cond_true' (by subst h2 h20; simp; omega)]
      by_cases hQ : 0 < Q1.length
      · have e1 : A ++ (P1 ++ (P2 ++ (Q1 ++ (Q2 ++ Z)))) = (A ++ P1) ++ (P2 ++ (Q1 ++ (Q2 ++ Z))) := by simp
        rw [cond_true' (by subst h2 he; simp; omega), cond_true' (by
          simp only [rotDom, small, Bool.and_eq_true, decide_eq_true_eq]
          refine ⟨⟨⟨⟨by omega, by omega⟩, by omega⟩, by simp only [List.length_append] at *; omega⟩, hs⟩), e1,
          rotOut_app (A ++ P1) P2 Q1 (Q2 ++ Z) (by simp only [List.length_append]; omega) (by simp only [List.length_append]; omega) (by simp only [List.length_append]; omega)]
        simp
      · obtain rfl : Q1 = [] := List.length_eq_zero_iff.1 (by omega)
        rw [cond_false' (by subst h2 he; simp)]
        rfl
    · obtain rfl : P2 = [] := List.length_eq_zero_iff.1 (by omega)
      rw [cond_false' (by subst h2 h20; simp)]
      rfl
  have hsl : (A ++ (P1 ++ (Q1 ++ (P2 ++ (Q2 ++ Z))))).length < 1099511627776 := by simp only [List.length_append] at *; omega
  rw [hrot, t1_ok rb A P1 Q1 (P2 ++ (Q2 ++ Z)) h1 h20 h18 hrb1 hsl (sorted_append.1 sP).1 (sorted_append.1 sQ).1]
  have e2 : A ++ (sortR (P1 ++ Q1) ++ (P2 ++ (Q2 ++ Z))) = (A ++ sortR (P1 ++ Q1)) ++ (P2 ++ (Q2 ++ Z)) := by simp
  have hl := sortR_len (P1 ++ Q1)
  simp only [List.length_append] at hl
  rw [e2, t2_ok rb (A ++ sortR (P1 ++ Q1)) P2 Q2 Z (by simp only [List.length_append]; omega) (by simp only [List.length_append]; omega) (by simp only [List.length_append]; omega) hrb2 (by rw [← e2]; simp only [List.length_append] at *; omega) (sorted_append.1 sP).2.1 (sorted_append.1 sQ).2.1]
  have hfin : sortR (P1 ++ Q1) ++ sortR (P2 ++ Q2) = sortR ((P1 ++ P2) ++ (Q1 ++ Q2)) := by
    refine eq_sortR (((sortR_perm _).append (sortR_perm _)).trans ?_) (sorted_append.2 ⟨sortR_sorted _, sortR_sorted _, fun x hx y hy => ?_⟩)
    · rw [List.append_assoc, List.append_assoc]
      refine List.Perm.append_left P1 ?_
      rw [← List.append_assoc, ← List.append_assoc P2]
      exact List.Perm.append_right Q2 List.perm_append_comm
    · have hx := (sortR_perm _).mem_iff.1 hx
      have hy := (sortR_perm _).mem_iff.1 hy
      rcases List.mem_append.1 hx with hx | hx <;> rcases List.mem_append.1 hy with hy | hy
      · exact (sorted_append.1 sP).2.2 x hx y hy
      · exact hPQ x hx y hy
      · exact hQP x hx y hy
      · exact (sorted_append.1 sQ).2.2 x hx y hy
  rw [List.append_assoc, ← List.append_assoc (sortR (P1 ++ Q1)), hfin]

set_option maxHeartbeats 4000000 in
theorem sym_main (rb : Nat) (A P Q Z : List Row) (a m b mid : Nat) (la : A.length = a) (l2 : P.length = m - a) (l3 : Q.length = b - m) (ham : a < m) (hmb : m < b) (h5 : (A ++ (P ++ (Q ++ Z))).length < 1099511627776) (sP : SortedR P) (sQ : SortedR Q) (hm1 : a < mid) (hm2 : mid < b) (hrb : b - a ≤ rb)
    (lo hi : Nat) (g1 : lo ≤ hi) (g2 : hi ≤ m) (g3 : a ≤ lo) (g4 : mid + m ≤ lo + b) (g6 : hi ≤ mid) (g7 : lo = a ∨ lo + b = mid + m) (g8 : hi = m ∨ hi = mid) (g9 : ∀ c, lo ≤ c → c < hi → mid + m - 1 - c < b) :
    X_z_symMergeCmpFunc_Row_8 BIG rb BIG (A ++ (P ++ (Q ++ Z))) a m b mid (mid + m : Nat) lo hi (mid + m - 1 : Nat) = some [(true, .sl .row (A ++ (sortR (P ++ Q) ++ Z)))] := by
  have hlen : (A ++ (P ++ (Q ++ Z))).length = a + (m - a) + (b - m) + Z.length := by simp only [List.length_append]; omega
  obtain ⟨r, r1, r2, r3, r4, r5⟩ := bs8 BIG rb (A ++ (P ++ (Q ++ Z))) h5 lo hi (mid + m - 1) (by omega) (fun c hc1 hc2 => ⟨by omega, by omega, by have := g9 c hc1 hc2; omega⟩) (v1 := a) (v2 := m) (v3 := b) (v18 := mid) (v19 := (mid + m : Nat)) hi lo hi BIG (by omega) (by unfold BIG; omega) (Nat.le_refl _) g1 (Nat.le_refl _) (fun h => by omega) (fun h => by omega) (by omega)
  rw [r5]
  have hk : r - a ≤ P.length := by omega
  have hj : mid - r ≤ Q.length := by omega
  have hw : IntKind.i64.wrap (((mid + m : Nat) : Int) - (r : Nat)) = (mid + m - r : Nat) := by rw [wrap64 (by omega) (by omega)]; omega
  have dP : ∀ i, i < P.length → (A ++ (P ++ (Q ++ Z)))[a + i]? = P[i]? := fun i hi => get_mid A P (Q ++ Z) hi (by omega)
  have dQ : ∀ i, i < Q.length → (A ++ (P ++ (Q ++ Z)))[m + i]? = Q[i]? := fun i hi => by
    rw [← List.append_assoc]; exact get_mid (A ++ P) Q Z hi (by simp only [List.length_append]; omega)
  have hPQ : ∀ x ∈ P.take (r - a), ∀ y ∈ Q.drop (mid - r), leR x y := fun x hx y hy =>
    drop_ge sQ (k := mid - r) (p := x) (fun hj z hz => take_le sP hk (p := z) (fun hk' w hw => r3 (by omega) z w (by
      rw [show mid + m - 1 - (r - 1) = m + (mid - r) by omega, dQ _ hj]; exact hz) (by rw [show r - 1 = a + (r - a - 1) by omega, dP _ (by omega)]; exact hw)) x hx) y hy
  have hQP : ∀ x ∈ Q.take (mid - r), ∀ y ∈ P.drop (r - a), leR x y := fun x hx y hy =>
    drop_ge sP (k := r - a) (p := x) (fun hk' z hz => take_le sQ hj (p := z) (fun hj' w hw => (leR_total w z).resolve_right (r4 (by omega) w z (by
      rw [show mid + m - 1 - r = m + (mid - r - 1) by omega, dQ _ (by omega)]; exact hw) (by rw [show r = a + (r - a) by omega, dP _ (by omega)]; exact hz))) x hx) y hy
  have lP := congrArg List.length (List.take_append_drop (r - a) P)
  have lQ := congrArg List.length (List.take_append_drop (mid - r) Q)
  have lP1 : (P.take (r - a)).length = r - a := by simp; omega
  have lQ1 : (Q.take (mid - r)).length = mid - r := by simp; omega
  simp only [List.length_append] at lP lQ
  have e5 : A ++ (P.take (r - a) ++ (P.drop (r - a) ++ (Q.take (mid - r) ++ (Q.drop (mid - r) ++ Z)))) = A ++ (P ++ (Q ++ Z)) := by
    rw [← List.append_assoc (Q.take _), List.take_append_drop, ← List.append_assoc (P.take _), List.take_append_drop]
  have := t0_ok rb A (P.take (r - a)) (P.drop (r - a)) (Q.take (mid - r)) (Q.drop (mid - r)) Z (v1 := a) (v2 := m) (v20 := r) (v3 := b) (v18 := mid) (e := (mid + m - r : Nat)) (by omega) (by omega) (by omega) (by omega) (by omega) (by omega) (by omega) (by omega)
    (by rw [e5]; exact h5) (by rw [List.take_append_drop]; exact sP) (by rw [List.take_append_drop]; exact sQ) hPQ hQP
  rw [e5, List.take_append_drop, List.take_append_drop] at this
  rw [hw]; exact this

theorem run_z_symMergeCmpFunc_Row (rb : Nat) (p1 p2 p3 : Int) (p0 : List Row) (h : mergeDom p0 p1 p2 p3 = true) (hm : (p3 - p1).toNat ≤ rb) :
    runL (E_z_symMergeCmpFunc_Row BIG rb) Try.f136 S_z_symMergeCmpFunc_Row [.i .i64 p1, .i .i64 p2, .i .i64 p3, .sl .row p0] = some [(true, .sl .row (sortOut p0 p1.toNat p3.toNat))] := by
  simp only [mergeDom, small, Bool.and_eq_true, decide_eq_true_eq] at h
  obtain ⟨⟨⟨⟨⟨⟨h1, h2⟩, h3⟩, h4⟩, h5⟩, h6⟩, h7⟩ := h
  obtain ⟨a, rfl⟩ := Int.eq_ofNat_of_zero_le h1
  obtain ⟨m, rfl⟩ := Int.eq_ofNat_of_zero_le (show 0 ≤ p2 by omega)
  obtain ⟨b, rfl⟩ := Int.eq_ofNat_of_zero_le (show 0 ≤ p3 by omega)
  simp only [Int.toNat_natCast] at h6 h7 ⊢
  have sP := sortedB_iff.1 h6
  have sQ := sortedB_iff.1 h7
  have e : p0 = p0.take a ++ ((p0.drop a).take (m - a) ++ ((p0.drop m).take (b - m) ++ p0.drop b)) := by
    rw [← cut3 p0 (show m ≤ b by omega), ← cut3 p0 (show a ≤ m by omega), List.take_append_drop]
  have l1 : (p0.take a).length = a := by simp; omega
  have l2 : ((p0.drop a).take (m - a)).length = m - a := by simp; omega
  have l3 : ((p0.drop m).take (b - m)).length = b - m := by simp; omega
  generalize p0.take a = A at e l1
  generalize (p0.drop a).take (m - a) = P at e l2 sP
  generalize (p0.drop m).take (b - m) = Q at e l3 sQ
  generalize p0.drop b = Z at e
  clear h6 h7
  subst e
  rw [top_z_symMergeCmpFunc_Row]
  have w1 : IntKind.i64.wrap ((m : Int) - a) = (P.length : Nat) := by rw [wrap64 (by omega) (by omega)]; omega
  have w2 : IntKind.i64.wrap ((b : Int) - m) = (Q.length : Nat) := by rw [wrap64 (by omega) (by omega)]; omega
  have hout : sortOut (A ++ (P ++ (Q ++ Z))) a b = A ++ (sortR (P ++ Q) ++ Z) := by
    rw [← List.append_assoc P, sortOut_app A (P ++ Q) Z (by omega) (by simp only [List.length_append]; omega)]
  rw [w1, w2, hout]
  have hlen : (A ++ (P ++ (Q ++ Z))).length = a + (m - a) + (b - m) + Z.length := by simp only [List.length_append]; omega
  by_cases c1 : P.length = 1
  · rw [cond_true' (by rw [c1]; rfl)]
    obtain ⟨p, rfl⟩ : ∃ p, P = [p] := List.length_eq_one_iff.1 c1
    simp only [List.length_singleton] at l2
    have hp : (A ++ ([p] ++ (Q ++ Z)))[a]? = some p := getE_app (by omega)
    obtain ⟨r, r1, r2, r3, r4, r5⟩ := bs0 BIG rb _ h5 p a hp b m b BIG (by omega) (by unfold BIG; omega) (by omega) (by omega)
    rw [r5]
    obtain ⟨k, rfl⟩ : ∃ k, r = m + k := ⟨r - m, by omega⟩
    have e3 : A ++ ([p] ++ (Q ++ Z)) = (A ++ [p]) ++ (Q ++ Z) := by simp
    have t1 := take_le sQ (k := k) (by omega) (p := p) fun hk x hx => (leR_total x p).resolve_right (r3 (by omega) x (by
      rw [e3, get_mid (A ++ [p]) Q Z (i := k - 1) (by omega) (by simp; omega)]; exact hx))
    have t2 := drop_ge sQ (k := k) (p := p) fun hk x hx => r4 (by omega) x (by
      rw [e3, get_mid (A ++ [p]) Q Z (i := k) (by omega) (by simp; omega)]; exact hx)
    have := mv_up BIG rb (Q.drop k ++ Z) p (Q.take k) A BIG (by unfold BIG; simp; omega) (by
      rw [← List.append_assoc (Q.take k), List.take_append_drop]; exact h5) ((m + k : Nat) : Int) a (by simp; omega) (by omega)
    rw [← List.append_assoc (Q.take k), List.take_append_drop] at this
    refine Eq.trans this ?_
    have hs : Q.take k ++ p :: Q.drop k = sortR ([p] ++ Q) := by
      refine eq_sortR ?_ (sorted_append.2 ⟨(sorted_append.1 (by rw [List.take_append_drop]; exact sQ : SortedR (Q.take k ++ Q.drop k))).1, List.pairwise_cons.2 ⟨t2, (sorted_append.1 (by rw [List.take_append_drop]; exact sQ : SortedR (Q.take k ++ Q.drop k))).2.1⟩, fun x hx y hy => ?_⟩)
      · refine List.perm_middle.trans ?_
        rw [List.take_append_drop]; exact .refl _
      · rcases List.mem_cons.1 hy with rfl | hy
        · exact t1 x hx
        · exact leR_trans (t1 x hx) (t2 y hy)
    rw [← hs]; simp
  · rw [cond_false' (by simp; omega)]
    by_cases c2 : Q.length = 1
    · rw [cond_true' (by rw [c2]; rfl)]
      obtain ⟨q, rfl⟩ : ∃ q, Q = [q] := List.length_eq_one_iff.1 c2
      simp only [List.length_singleton] at l3
      have e3 : A ++ (P ++ ([q] ++ Z)) = (A ++ P) ++ q :: Z := by simp
      have hp : (A ++ (P ++ ([q] ++ Z)))[m]? = some q := by rw [e3]; exact getE_app (by simp; omega)
      obtain ⟨r, r1, r2, r3, r4, r5⟩ := bs4 BIG rb _ h5 q m hp m a m BIG (by omega) (by unfold BIG; omega) (by omega) (by omega)
      rw [r5]
      obtain ⟨k, rfl⟩ : ∃ k, r = a + k := ⟨r - a, by omega⟩
      have t1 := take_le sP (k := k) (by omega) (p := q) fun hk x hx => r3 (by omega) x (by
        rw [get_mid A P ([q] ++ Z) (i := k - 1) (by omega) (by omega)]; exact hx)
      have t2 := drop_ge sP (k := k) (p := q) fun hk x hx => (leR_total q x).resolve_right (r4 (by omega) x (by
        rw [get_mid A P ([q] ++ Z) (i := k) (by omega) (by omega)]; exact hx))
      have := mv_down BIG rb (A ++ P.take k) q (P.drop k).length (P.drop k) Z BIG rfl (by unfold BIG; simp; omega) (by simp; omega) ((a + k : Nat) : Int) m (by simp; omega) (by simp; omega)
      have e4 : A ++ P.take k ++ (P.drop k ++ q :: Z) = A ++ (P ++ ([q] ++ Z)) := by
        rw [List.append_assoc, ← List.append_assoc (P.take k), List.take_append_drop]; rfl
      rw [e4] at this
      refine Eq.trans this ?_
      have hs : P.take k ++ q :: P.drop k = sortR (P ++ [q]) := by
        refine eq_sortR ?_ (sorted_append.2 ⟨(sorted_append.1 (by rw [List.take_append_drop]; exact sP : SortedR (P.take k ++ P.drop k))).1, List.pairwise_cons.2 ⟨t2, (sorted_append.1 (by rw [List.take_append_drop]; exact sP : SortedR (P.take k ++ P.drop k))).2.1⟩, fun x hx y hy => ?_⟩)
        · refine List.perm_middle.trans ?_
          rw [List.take_append_drop]; exact List.perm_append_comm (l₁ := [q])
        · rcases List.mem_cons.1 hy with rfl | hy
          · exact t1 x hx
          · exact leR_trans (t1 x hx) (t2 y hy)
      rw [← hs]; simp
    · rw [cond_false' (by simp; omega)]
      have hh := half_eq (i := (a : Int)) (j := (b : Int)) rfl rfl (by omega)
      generalize hmid : (a + b) / 2 = mid at hh
      rw [hh]
      have w3 : IntKind.i64.wrap ((mid : Nat) + (m : Int)) = (mid + m : Nat) := by rw [wrap64 (by omega) (by omega)]; omega
      have w4 : IntKind.i64.wrap (((mid + m : Nat) : Int) - 1) = (mid + m - 1 : Nat) := by rw [wrap64 (by omega) (by omega)]; omega
      have w5 : IntKind.i64.wrap (((mid + m : Nat) : Int) - b) = ((mid + m : Nat) : Int) - b := by rw [wrap64 (by omega) (by omega)]
      rw [w3, w4, w5]
      by_cases c3 : mid < m
      · rw [cond_true' (by simp; omega)]
        have := sym_main rb A P Q Z a m b mid l1 l2 l3 (by omega) (by omega) h5 sP sQ (by omega) (by omega) (by omega) (mid + m - b) mid (by omega) (by omega) (by omega) (by omega) (by omega) (.inr (by omega)) (.inr rfl) (fun c hc1 hc2 => by omega)
        rw [← this]; congr 1; omega
      · rw [cond_false' (by simp; omega)]
        exact sym_main rb A P Q Z a m b mid l1 l2 l3 (by omega) (by omega) h5 sP sQ (by omega) (by omega) (by omega) a m (by omega) (by omega) (by omega) (by omega) (by omega) (.inl rfl) (.inl rfl) (fun c hc1 hc2 => by omega)
theorem fg_z_symMergeCmpFunc_Row : Try.prog.funcs[136]? = some Try.f136 := by kernel_rfl
theorem cr_z_symMergeCmpFunc_Row : ∀ rb, FnOK Try.prog 136 (callL (FR_z_symMergeCmpFunc_Row rb)) := by
  intro rb
  induction rb with
  | zero =>
    refine fnok_of_runL (code := Try.f136.body.getD .skip) mixed fg_z_symMergeCmpFunc_Row (by kernel_rfl) (Nat.le_of_ble_eq_true (by kernel_rfl)) (Nat.le_of_ble_eq_true (by kernel_rfl)) fun ds out hd hr => ?_
    dsimp only [FR_z_symMergeCmpFunc_Row] at hd
    split at hd
    · simp at hd
    · cases hd
  | succ rb ih =>
    refine fnok_of_runL (code := Try.f136.body.getD .skip) mixed fg_z_symMergeCmpFunc_Row (by kernel_rfl) (Nat.le_of_ble_eq_true (by kernel_rfl)) (Nat.le_of_ble_eq_true (by kernel_rfl)) fun ds out hd hr => ?_
    dsimp only [FR_z_symMergeCmpFunc_Row] at hd hr
    split at hd
    · simp only [Option.some.injEq] at hr
      subst hr
      obtain ⟨h1, h2⟩ := (Bool.and_eq_true _ _).mp hd
      exact ⟨E_z_symMergeCmpFunc_Row BIG rb, tys_ok tysB_ok, FnsL.cons (fn_ok c_i_CompareRows) fg_i_CompareRows rfl rfl (FnsL.cons (ih) fg_z_symMergeCmpFunc_Row rfl rfl (FnsL.cons (c_z_rotateCmpFunc_Row) fg_z_rotateCmpFunc_Row rfl rfl (FnsL.nil))), rfl, rfl, by kernel_rfl, (runL_congr (S := S_z_symMergeCmpFunc_Row) rfl rfl rfl).trans (run_z_symMergeCmpFunc_Row rb _ _ _ _ h1 (Nat.le_of_lt_succ (of_decide_eq_true h2)))⟩
    · cases hd
def F_z_symMergeCmpFunc_Row : FnL := { S_z_symMergeCmpFunc_Row with dom := fun ds => match ds with | [.i .i64 p1, .i .i64 p2, .i .i64 p3, .sl .row p0] => mergeDom p0 p1 p2 p3 | _ => false, run := fun ds => match ds with | [.i .i64 p1, .i .i64 p2, .i .i64 p3, .sl .row p0] => some [(true, .sl .row (sortOut p0 p1.toNat p3.toNat))] | _ => none }
theorem c_z_symMergeCmpFunc_Row : FnOK Try.prog 136 (callL F_z_symMergeCmpFunc_Row) := by
  refine fnok_of_runL (code := Try.f136.body.getD .skip) mixed fg_z_symMergeCmpFunc_Row (by kernel_rfl) (Nat.le_of_ble_eq_true (by kernel_rfl)) (Nat.le_of_ble_eq_true (by kernel_rfl)) fun ds out hd hr => ?_
  dsimp only [F_z_symMergeCmpFunc_Row] at hd hr
  split at hd
  · rename_i p1 p2 p3 p0
    simp only [Option.some.injEq] at hr
    subst hr
    exact ⟨E_z_symMergeCmpFunc_Row BIG ((p3 - p1).toNat), tys_ok tysB_ok, FnsL.cons (fn_ok c_i_CompareRows) fg_i_CompareRows rfl rfl (FnsL.cons ((cr_z_symMergeCmpFunc_Row _)) fg_z_symMergeCmpFunc_Row rfl rfl (FnsL.cons (c_z_rotateCmpFunc_Row) fg_z_rotateCmpFunc_Row rfl rfl (FnsL.nil))), rfl, rfl, by kernel_rfl, (runL_congr (S := S_z_symMergeCmpFunc_Row) rfl rfl rfl).trans (run_z_symMergeCmpFunc_Row _ _ _ _ _ hd (Nat.le_refl _))⟩
  · cases hd
def S_z_stableCmpFunc_Row : FnL := ⟨[.en (.sl .row), .dp false [.sc], .cl 85 []], [], false, fun _ => false, fun _ => none⟩
def E_z_stableCmpFunc_Row (fuel : Nat) : Env := ⟨tys, [(135, callL F_z_insertionSortCmpFunc_Row), (136, callL F_z_symMergeCmpFunc_Row)], [(0, ([(0, .a .row 63), (1, .p), (2, .p), (6, .p), (7, .p), (8, .p)], 64)), (4, ([(0, .a .row 63), (1, .p), (2, .p), (6, .p)], 64)), (8, ([(0, .a .row 63), (1, .p), (2, .p), (6, .p), (7, .p), (8, .p)], 64))], fuel, 63, 1⟩
noncomputable def X_z_stableCmpFunc_Row_0 (fuel : Nat) (n : Nat)  (v0 : List Row) (v1 : Int) (v6 : Int) (v7 : Int) (v8 : Int) : Res := loopL (E_z_stableCmpFunc_Row fuel) Try.f123 S_z_stableCmpFunc_Row [1, 1, 0] [] n ⟨upds (fun _ => cU) [(0, .av (.one (.ls 63 0 none))), (63, .arr .row true v0), (1, .av (.one (.d (.i .i64 v1)))), (2, .av (.clo 85 [])), (6, .av (.one (.d (.i .i64 v6)))), (7, .av (.one (.d (.i .i64 v7)))), (8, .av (.one (.d (.i .i64 v8))))], 64⟩
noncomputable def X_z_stableCmpFunc_Row_2 (fuel : Nat) (n : Nat)  (v0 : List Row) (v1 : Int) (v6 : Int) : Res := loopL (E_z_stableCmpFunc_Row fuel) Try.f123 S_z_stableCmpFunc_Row [1, 1, 1, 1] [] n ⟨upds (fun _ => cU) [(0, .av (.one (.ls 63 0 none))), (63, .arr .row true v0), (1, .av (.one (.d (.i .i64 v1)))), (2, .av (.clo 85 [])), (6, .av (.one (.d (.i .i64 v6))))], 64⟩
noncomputable def X_z_stableCmpFunc_Row_4 (fuel : Nat) (n : Nat) (n2 : Nat) (v0 : List Row) (v1 : Int) (v6 : Int) (v7 : Int) (v8 : Int) : Res := loopL (E_z_stableCmpFunc_Row fuel) Try.f123 S_z_stableCmpFunc_Row [1, 1, 1, 1, 0, 1, 0, 1, 0] [loopL (E_z_stableCmpFunc_Row fuel) Try.f123 S_z_stableCmpFunc_Row [1, 1, 1, 1] [] n2] n ⟨upds (fun _ => cU) [(0, .av (.one (.ls 63 0 none))), (63, .arr .row true v0), (1, .av (.one (.d (.i .i64 v1)))), (2, .av (.clo 85 [])), (6, .av (.one (.d (.i .i64 v6)))), (7, .av (.one (.d (.i .i64 v7)))), (8, .av (.one (.d (.i .i64 v8))))], 64⟩
theorem top_z_stableCmpFunc_Row (fuel : Nat) (p1 : Int) (p0 : List Row) : runL (E_z_stableCmpFunc_Row fuel) Try.f123 S_z_stableCmpFunc_Row [.i .i64 p1, .sl .row p0] =
 X_z_stableCmpFunc_Row_0 fuel fuel p0 p1 20 0 20 := by kernel_rfl
theorem st_z_stableCmpFunc_Row_0 (fuel : Nat) (n : Nat)  (v0 : List Row) (v1 : Int) (v6 : Int) (v7 : Int) (v8 : Int) : X_z_stableCmpFunc_Row_0 fuel (n + 1) v0 v1 v6 v7 v8 =
 cond (decide (v8 ≤ v1))
 (cond (sortDom v0 v7 v8) (X_z_stableCmpFunc_Row_0 fuel n (sortOut v0 v7.toNat v8.toNat) v1 v6 v8 (IntKind.i64.wrap (v8 + v6))) none)
 (cond (sortDom v0 v7 v1) (X_z_stableCmpFunc_Row_2 fuel fuel (sortOut v0 v7.toNat v1.toNat) v1 v6) none) := by kernel_rfl
theorem st_z_stableCmpFunc_Row_2 (fuel : Nat) (n : Nat)  (v0 : List Row) (v1 : Int) (v6 : Int) : X_z_stableCmpFunc_Row_2 fuel (n + 1) v0 v1 v6 =
 cond (decide (v6 < v1))
 (X_z_stableCmpFunc_Row_4 fuel fuel n v0 v1 v6 0 (IntKind.i64.wrap (2 * v6)))
 (some [(true, .sl .row v0)]) := by kernel_rfl
theorem st_z_stableCmpFunc_Row_4 (fuel : Nat) (n : Nat) (n2 : Nat) (v0 : List Row) (v1 : Int) (v6 : Int) (v7 : Int) (v8 : Int) : X_z_stableCmpFunc_Row_4 fuel (n + 1) n2 v0 v1 v6 v7 v8 =
 cond (decide (v8 ≤ v1))
 (cond (mergeDom v0 v7 (IntKind.i64.wrap (v7 + v6)) v8) (X_z_stableCmpFunc_Row_4 fuel n n2 (sortOut v0 v7.toNat v8.toNat) v1 v6 v8 (IntKind.i64.wrap (v8 + (IntKind.i64.wrap (2 * v6))))) none)
 (cond (decide ((IntKind.i64.wrap (v7 + v6)) < v1))
 (cond (mergeDom v0 v7 (IntKind.i64.wrap (v7 + v6)) v1) (X_z_stableCmpFunc_Row_2 fuel n2 (sortOut v0 v7.toNat v1.toNat) v1 (IntKind.i64.wrap (v6 * 2))) none)
 (X_z_stableCmpFunc_Row_2 fuel n2 v0 v1 (IntKind.i64.wrap (v6 * 2)))) := by kernel_rfl
end Go.Proofs.Ytfjdfbdiichhdaa
