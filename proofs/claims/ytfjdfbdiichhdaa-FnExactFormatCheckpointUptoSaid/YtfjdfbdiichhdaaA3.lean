/-
  Rows in order: the comparison is a total order, and a list has one sorted form. Conditions: none.
-/
import Derived.Test.YtfjdfbdiichhdaaA2
namespace Go.Proofs.Ytfjdfbdiichhdaa
open Go Ai
set_option maxRecDepth 100000

def cmpR (a b : Row) : Int := r_i_CompareRows_0 a.k a.v a.w b.k b.v b.w
def leR (a b : Row) : Prop := a.k < b.k ∨ (a.k = b.k ∧ (a.v < b.v ∨ (a.v = b.v ∧ a.w ≤ b.w)))
instance (a b : Row) : Decidable (leR a b) := by unfold leR; infer_instance
theorem order_val (a b : Int) : r_i_order_0 a b = if a < b then -1 else if b < a then 1 else 0 := by
  unfold r_i_order_0
  simp only [Bool.cond_eq_ite, decide_eq_true_eq, gt_iff_lt]
theorem cmpR_val (a b : Row) : cmpR a b = if a.k < b.k then -1 else if b.k < a.k then 1 else if a.v < b.v then -1 else if b.v < a.v then 1 else if a.w < b.w then -1 else if b.w < a.w then 1 else 0 := by
  unfold cmpR r_i_CompareRows_0
  simp only [order_val, Bool.cond_eq_ite, Bool.not_eq_true', decide_eq_false_iff_not]
  (repeat' split) <;> first | rfl | omega
theorem cmp_lt {a b : Row} : cmpR a b < 0 ↔ ¬ leR b a := by
  rw [cmpR_val]; unfold leR
  (repeat' split) <;> omega
theorem cmp_le {a b : Row} : cmpR a b ≤ 0 ↔ leR a b := by
  rw [cmpR_val]; unfold leR
  (repeat' split) <;> omega
theorem leR_total (a b : Row) : leR a b ∨ leR b a := by unfold leR; omega
theorem leR_refl (a : Row) : leR a a := by unfold leR; omega
theorem leR_trans {a b c : Row} (h : leR a b) (h' : leR b c) : leR a c := by unfold leR at *; omega
theorem leR_antisymm {a b : Row} (h : leR a b) (h' : leR b a) : a = b := by
  obtain ⟨a1, a2, a3⟩ := a
  obtain ⟨b1, b2, b3⟩ := b
  unfold leR at *
  simp only at h h'
  simp only [Row.mk.injEq]
  omega

abbrev SortedR (l : List Row) : Prop := l.Pairwise leR
def insR (x : Row) : List Row → List Row
  | [] => [x]
  | y :: r => if leR y x then y :: insR x r else x :: y :: r
def sortR : List Row → List Row
  | [] => []
  | x :: r => insR x (sortR r)
theorem insR_perm (x : Row) : ∀ l : List Row, (insR x l).Perm (x :: l)
  | [] => .refl _
  | y :: r => by
    unfold insR
    split
    · exact ((insR_perm x r).cons y).trans (.swap x y r)
    · exact .refl _
theorem insR_sorted (x : Row) : ∀ {l : List Row}, SortedR l → SortedR (insR x l)
  | [], _ => by simp [insR]
  | y :: r, h => by
    unfold insR
    have h := List.pairwise_cons.1 h
    split
    · rename_i hyx
      refine List.pairwise_cons.2 ⟨fun z hz => ?_, insR_sorted x h.2⟩
      rcases List.mem_cons.1 ((insR_perm x r).mem_iff.1 hz) with rfl | hz
      · exact hyx
      · exact h.1 z hz
    · rename_i hyx
      have hxy := (leR_total x y).resolve_right hyx
      refine List.pairwise_cons.2 ⟨fun z hz => ?_, List.pairwise_cons.2 h⟩
      rcases List.mem_cons.1 hz with rfl | hz
      · exact hxy
      · exact leR_trans hxy (h.1 z hz)
theorem sortR_perm : ∀ l : List Row, (sortR l).Perm l
  | [] => .refl _
  | x :: r => (insR_perm x _).trans ((sortR_perm r).cons x)
theorem sortR_sorted : ∀ l : List Row, SortedR (sortR l)
  | [] => List.Pairwise.nil
  | x :: r => insR_sorted x (sortR_sorted r)
theorem sorted_unique {l l' : List Row} (hp : l.Perm l') (h : SortedR l) (h' : SortedR l') : l = l' :=
  List.Perm.eq_of_pairwise (fun _ _ _ _ h h' => leR_antisymm h h') h h' hp
theorem eq_sortR {l l' : List Row} (hp : l'.Perm l) (h : SortedR l') : l' = sortR l := sorted_unique (hp.trans (sortR_perm l).symm) h (sortR_sorted l)
theorem sortR_congr {l l' : List Row} (hp : l.Perm l') : sortR l = sortR l' := eq_sortR ((sortR_perm l).trans hp) (sortR_sorted l)
theorem sortR_of_sorted {l : List Row} (h : SortedR l) : sortR l = l := (eq_sortR (.refl _) h).symm
theorem sortR_len (l : List Row) : (sortR l).length = l.length := (sortR_perm l).length_eq
theorem sorted_append {l l' : List Row} : SortedR (l ++ l') ↔ SortedR l ∧ SortedR l' ∧ ∀ a ∈ l, ∀ b ∈ l', leR a b := List.pairwise_append
end Go.Proofs.Ytfjdfbdiichhdaa
