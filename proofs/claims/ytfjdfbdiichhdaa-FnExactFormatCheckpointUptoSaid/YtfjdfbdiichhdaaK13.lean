/-
  The abstract interpreter, thirteenth part: the soundness of building structs and slices. Conditions: the table agrees with the program (TysOK).
-/
import Derived.Test.YtfjdfbdiichhdaaK12
import Derived.Laws.Tables
namespace Go.Proofs.Ytfjdfbdiichhdaa
open Go
namespace Ai

theorem foldl_put (f : Array Value → Value × Nat → Array Value) (o : Nat) (hf : ∀ cs v j, f cs (v, j) = cs.setIfInBounds (o + j) v) : ∀ (vs : List Value) (k : Nat) (arr : Array Value),
    (vs.zipIdx k).foldl f arr = putA arr (o + k) vs
  | [], _, _ => rfl
  | v :: r, k, arr => by
    simp only [List.zipIdx_cons, List.foldl_cons, hf]
    rw [foldl_put f o hf r (k + 1)]
    rfl
theorem fill_cons {place : Nat → Option (Nat × Nat)} {arr : Array Value} {i off size : Nat} {v : Value} {rest : List (Nat × Value)} (hp : place i = some (off, size)) (hv : v.cells.size = size) (ho : off + size ≤ arr.size) :
    Instr.fill place arr ((i, v) :: rest) = Instr.fill place (putA arr off v.cells.toList) rest := by
  simp only [Instr.fill, hp]
  rw [if_neg (by simp; omega)]
  congr 1
  rw [← Array.foldl_toList, Array.toList_zipIdx]
  exact foldl_put _ off (fun cs v j => rfl) v.cells.toList 0 arr

theorem places_of {P : Program} : ∀ {fs : List Field} {l : List (Nat × Nat)}, fldsB P fs l = true → fs.mapM (fun f => (P.info? f.type).map fun i => (f.offset, i.size)) = some l
  | [], [], _ => rfl
  | [], _ :: _, h => by simp [fldsB] at h
  | _ :: _, [], h => by simp [fldsB] at h
  | f :: fs, (o, n) :: l, h => by
    simp only [fldsB, Bool.and_eq_true] at h
    have h1 := h.1
    cases hi : P.info? f.type with
    | none => simp [hi] at h1
    | some i =>
      simp [hi] at h1
      simp [List.mapM_cons, hi, places_of h.2, h1.1.1.1, h1.1.1.2]

section
variable {c : Ctx} {m : Mem} {g : Key → Value} {q : Wld} {nk : Key}

def partR (q : Wld) (x : Nat × Value) (y : Nat × AV) : Prop := x.1 = y.1 ∧ AVR q x.2 y.2

theorem put_cells {arr : Array Value} {cs new : List A0} {vs : List Value} {off : Nat} (hc : cellsR q arr.toList cs) (hn : cellsR q vs new) (ho : off + new.length ≤ cs.length) : cellsR q (putA arr off vs).toList (putAt cs off new) := by
  have hal : arr.size = cs.length := by have := hc.length; simpa using this
  have hl := hn.length
  refine Each.of_get (by simp [putA_size, putAt]; omega) fun j u y hu hy => ?_
  rw [Array.getElem?_toList, putA_get] at hu
  rw [put_get ho] at hy
  by_cases hj : off ≤ j ∧ j < off + new.length
  · rw [if_pos ⟨hj.1, by omega, by omega⟩] at hu
    rw [if_pos hj] at hy
    obtain ⟨u', hu', hR⟩ := Each.get hn hy
    rw [hu] at hu'
    cases hu'
    exact hR
  · rw [if_neg (by omega)] at hu
    rw [if_neg hj] at hy
    obtain ⟨u', hu', hR⟩ := Each.get hc hy
    rw [Array.getElem?_toList, hu] at hu'
    cases hu'
    exact hR

theorem fill_ok {flds : List (Nat × Nat)} {place : Nat → Option (Nat × Nat)} (hpl : ∀ f x, flds[f]? = some x → place f = some x) : ∀ {ps : List (Nat × Value)} {qs : List (Nat × AV)} {arr : Array Value} {cs cs' : List A0},
    cellsR q arr.toList cs → Each (partR q) ps qs → fillA cs flds qs = some cs' → ∃ arr', Instr.fill place arr ps = some arr' ∧ cellsR q arr'.toList cs'
  | [], [], arr, cs, cs', hc, _, h => by simp [fillA] at h; subst h; exact ⟨arr, rfl, hc⟩
  | [], _ :: _, _, _, _, _, h, _ => h.elim
  | _ :: _, [], _, _, _, _, h, _ => h.elim
  | (i, v) :: ps, (j, x) :: qs, arr, cs, cs', hc, hp, h => by
    obtain ⟨⟨he, hv⟩, hp⟩ := hp
    have he : i = j := he
    subst he
    have hv : AVR q v x := hv
    simp only [fillA] at h
    cases hf : flds[i]? with
    | none => simp [hf] at h
    | some y =>
      obtain ⟨off, n⟩ := y
      simp only [hf] at h
      cases hb : (Nat.beq x.cells.length n && Nat.ble (off + n) cs.length && Nat.blt 0 n) with
      | false => simp [hb] at h
      | true =>
        simp only [hb, cond_true] at h
        simp only [Bool.and_eq_true] at hb
        have h1 : x.cells.length = n := Nat.eq_of_beq_eq_true hb.1.1
        have h2 : off + n ≤ cs.length := Nat.le_of_ble_eq_true hb.1.2
        have h3 : 0 < n := Nat.le_of_ble_eq_true hb.2
        have hcv := hv.cells (by omega)
        have hcl := hcv.length
        simp at hcl
        have hal : arr.size = cs.length := by have := hc.length; simpa using this
        rw [fill_cons (hpl _ _ hf) (by omega) (by omega)]
        exact fill_ok hpl (put_cells hc hcv (by omega)) hp h

theorem build_does (hG : Good c m g q) {t : TypeId} {i : TI} (hi : TyOK c.P t i) {ps : List (Nat × Value)} {qs : List (Nat × AV)} (hp : Each (partR q) ps qs) (hagg : i.flds ≠ []) {cs : List A0} (hf : fillA i.zero i.flds qs = some cs) :
    Does c m g q nk (.agg cs) [] ((Instr.build t ps.toArray).run c.P q.w) := by
  obtain ⟨inf, d, z, h1, h2, h3, h4, h5, h6, h7, h8⟩ := hi.inf
  cases hfl : i.flds with
  | nil => exact absurd hfl hagg
  | cons y ys =>
    obtain ⟨fs, hu, hfb⟩ := hi.flds 0 y (by simp [hfl])
    obtain ⟨arr, hfill, hcs⟩ := fill_ok (place := fun k => i.flds.toArray[k]?) (fun f x hx => by simpa using hx) (zs_cells h7) hp hf
    refine Does.pure (val := .agg arr) hG ?_ ⟨arr, rfl, hcs⟩
    refine run_build q.w t _ arr ?_
    unfold Program.built
    simp only [h1, hu, h5, places_of hfb]
    simpa using hfill
end
end Ai
end Go.Proofs.Ytfjdfbdiichhdaa
