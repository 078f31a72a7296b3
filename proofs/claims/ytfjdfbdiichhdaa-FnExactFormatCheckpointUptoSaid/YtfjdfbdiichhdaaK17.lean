/-
  The abstract interpreter, seventeenth part: every operation as the model's code has it. Conditions: the table agrees with the program (TysOK); each function called meets its contract (FnOK).
-/
import Derived.Test.YtfjdfbdiichhdaaK16
namespace Go.Proofs.Ytfjdfbdiichhdaa
open Go
namespace Ai

/- A function as a small program over keys. -/
def FnOK (P : Program) (f : FuncId) (rf : Key → List AV → RM) : Prop :=
  ∀ {c : Ctx} {m : Mem} {g : Key → Value} {q : Wld} {nk : Key} {vals : List Value} {args : List AV} {v : AV} {ws : List (Key × C)}, c.P = P → Good c m g q → (∀ k, nk ≤ k → k < nk + 32 → ¬ q.fr k) → c.N ≤ nk →
    Each (AVR q) vals args → (rf nk args).ev m = some (v, ws) → Calls P f vals.toArray q.w fun e w' => ∃ val q', e = .returned val ∧ q'.w = w' ∧ Good c (upds m ws) g q' ∧ Step q q' ∧ AVR q' val v ∧
      ∀ k, q'.fr k → q.fr k ∨ (nk ≤ k ∧ k < nk + 32)
def FnsOK (P : Program) (E : Env) : Prop := ∀ f rf, lk f E.fns = some rf → FnOK P f rf ∧ ∃ fn, P.funcs[f]? = some fn ∧ (fn.name == "runtime.NumGoroutine") = false ∧ fn.body.isNone = false

theorem nk_lt (nk : Nat) : nk < nk + 32 := by omega

section
variable {c : Ctx} {m : Mem} {g : Key → Value} {q : Wld} {nk : Key} {a : Act}

theorem each_map {ps : List (Nat × Operand)} {vs : List AV} (h : Each (AVR q) ((ps.map (·.2)).map a.eval) vs) : Each (partR q) (ps.map fun p => (p.1, a.eval p.2)) ((ps.map (·.1)).zip vs) := by
  induction ps generalizing vs with
  | nil => cases vs with
    | nil => trivial
    | cons _ _ => exact h.elim
  | cons p ps ih => cases vs with
    | nil => exact h.elim
    | cons v vs => exact ⟨⟨rfl, h.1⟩, ih h.2⟩
theorem zip_len {α β : Type} {ps : List α} {vs : List β} (h : ps.length = vs.length) : (ps.zip vs).length = ps.length := by simp [h]

theorem wp_pure {o : Oper} {v : AV} {val : Value} {K : Act → World → Prop} {Q : Exit → Act → World → Prop} (hG : Good c m g q) (hr : (execOp a.eval o).run c.P q.w = .ok (.value val) q.w) (hv : AVR q val v)
    (hK : ∀ val q', Good c (upds m []) g q' → Step q q' → AVR q' val v → (∀ k, q'.fr k → q.fr k ∨ (nk ≤ k ∧ k < nk + 32)) → K (a.put o.dst val) q'.w) : o.wp c.P a q.w K Q := by
  unfold Oper.wp
  rw [hr]
  exact hK val q hG (Step.refl q) hv fun _ h => .inl h

theorem upon_call {P : Program} {o : Oper} {w : World} {K : Act → World → Prop} {Q : Exit → Act → World → Prop} {f : FuncId} {args : Array Value} {fn : Func} (hf : P.funcs[f]? = some fn) (h1 : (fn.name == "runtime.NumGoroutine") = false) (h2 : fn.body.isNone = false)
    (h : Calls P f args w fun e w' => ∃ val, e = .returned val ∧ K (a.put o.dst val) w') : o.upon P a K Q ((callFunc f args).run P w) := by
  have hc : (callFunc f args).run P w = .ok (.enter f args) w := by
    simp only [callFunc, Sem.run_bind, run_program, Result.andThen_ok, hf]
    rw [h1]
    simp [h2]
  rw [hc, Oper.upon_enter]
  refine h.mono fun e w' ⟨val, he, hk⟩ => ?_
  subst he
  exact hk

theorem ones_cells : ∀ {us : List Value} {vs : List AV} {cs : List A0}, Each (AVR q) us vs → ones vs = some cs → cellsR q us cs
  | [], [], cs, _, h => by simp [ones] at h; subst h; trivial
  | [], _ :: _, _, h, _ => h.elim
  | _ :: _, [], _, h, _ => h.elim
  | u :: us, v :: vs, cs, h, ho => by
    cases v with
    | one x =>
      simp only [ones] at ho
      cases hr : ones vs with
      | none => simp [hr] at ho
      | some r => simp [hr] at ho; subst ho; exact ⟨h.1, ones_cells h.2 hr⟩
    | _ => simp [ones] at ho
theorem args1 {xs : Array Operand} {u : Value} (h : xs.toList.map a.eval = [u]) : xs.map a.eval = #[u] := by apply Array.ext'; simpa using h
theorem args2 {xs : Array Operand} {u v : Value} (h : xs.toList.map a.eval = [u, v]) : xs.map a.eval = #[u, v] := by apply Array.ext'; simpa using h
theorem each1 {us : List Value} {v : AV} (h : Each (AVR q) us [v]) : ∃ u, us = [u] ∧ AVR q u v := by
  cases us with
  | nil => exact h.elim
  | cons u r => cases r with
    | nil => exact ⟨u, rfl, h.1⟩
    | cons _ _ => exact h.2.elim
theorem each2 {us : List Value} {v v' : AV} (h : Each (AVR q) us [v, v']) : ∃ u u', us = [u, u'] ∧ AVR q u v ∧ AVR q u' v' := by
  cases us with
  | nil => exact h.elim
  | cons u r =>
    obtain ⟨u', rfl, hu⟩ := each1 h.2
    exact ⟨u, u', rfl, h.1, hu⟩

theorem op_wp (hG : Good c m g q) (hT : Tmps c g a) {E : Env} (hE : TysOK c.P E) (hF : FnsOK c.P E) {o : Oper} {v : AV} {ws : List (Key × C)} (hfr : ∀ k, nk ≤ k → k < nk + 32 → ¬ q.fr k) (hN : c.N ≤ nk)
    (h : (opRM E nk o.op).ev m = some (v, ws)) {K : Act → World → Prop} {Q : Exit → Act → World → Prop}
    (hK : ∀ val q', Good c (upds m ws) g q' → Step q q' → AVR q' val v → (∀ k, q'.fr k → q.fr k ∨ (nk ≤ k ∧ k < nk + 32)) → K (a.put o.dst val) q'.w) : o.wp c.P a q.w K Q := by
  have hf := hfr nk (Nat.le_refl _) (nk_lt nk)
  cases ho : o.op with
  | move x =>
    rw [ho] at h
    replace h := opd_ev hG hT h
    obtain ⟨va, hv, h⟩ := h
    obtain ⟨rfl, rfl⟩ := ret_ev h
    exact wp_pure hG (by simp [execOp, ho]) hv hK
  | assign x =>
    rw [ho] at h
    replace h := opd_ev hG hT h
    obtain ⟨va, hv, h⟩ := h
    obtain ⟨rfl, rfl⟩ := ret_ev h
    exact wp_pure hG (by simp [execOp, ho]) hv hK
  | pick x y z =>
    rw [ho] at h
    replace h := opd_ev hG hT h
    obtain ⟨vx, hx, h⟩ := h
    replace h := opd_ev hG hT h
    obtain ⟨vy, hy, h⟩ := h
    replace h := opd_ev hG hT h
    obtain ⟨vz, hz, h⟩ := h
    split at h
    · have hb := bool_of hx
      obtain ⟨rfl, rfl⟩ := ret_ev h
      exact wp_pure hG (by simp [execOp, ho, hb, asBool]) hy hK
    · have hb := bool_of hx
      obtain ⟨rfl, rfl⟩ := ret_ev h
      exact wp_pure hG (by simp [execOp, ho, hb, asBool]) hz hK
    · simp [RM.ev] at h
  | alloc t =>
    rw [ho] at h
    replace h := ty_ev h
    obtain ⟨i, hi, h⟩ := h
    obtain ⟨rfl, rfl⟩ := ret_ev h
    exact wp_value (by simp only [execOp, ho]) (alloc_does hG hf hN (hE _ _ hi)) hK
  | box t x =>
    rw [ho] at h
    replace h := ty_ev h
    obtain ⟨i, hi, h⟩ := h
    replace h := opd_ev hG hT h
    obtain ⟨va, hv, h⟩ := h
    replace h := bif_ev h
    obtain ⟨hb, h⟩ := h
    obtain ⟨rfl, rfl⟩ := ret_ev h
    obtain ⟨inf, d, z, h1, h2, h3, h4, -⟩ := (hE _ _ hi).inf
    have hb : va.cells.length = i.cts.length := Nat.eq_of_beq_eq_true hb
    exact wp_value (s := Instr.box t (a.eval x)) (by simp only [execOp, ho]) (box_does hG hf hN (hv.cells (by omega))) hK
  | build t ps =>
    rw [ho] at h
    replace h := ty_ev h
    obtain ⟨i, hi, h⟩ := h
    replace h := bifn_ev h
    obtain ⟨hfl, h⟩ := h
    replace h := opds_ev hG hT h
    obtain ⟨vs, hvs, h⟩ := h
    cases hfi : fillA i.zero i.flds ((ps.toList.map (·.1)).zip vs) with
    | none => simp [hfi, RM.ev] at h
    | some cs =>
      simp only [hfi] at h
      obtain ⟨rfl, rfl⟩ := ret_ev h
      refine wp_value (s := Instr.build t (ps.map fun (i, x) => (i, a.eval x))) (by simp only [execOp, ho]) ?_ hK
      have := build_does (nk := nk) hG (hE _ _ hi) (each_map hvs) (by intro e; simp [e] at hfl) hfi
      rwa [show (ps.toList.map fun p => (p.1, a.eval p.2)).toArray = ps.map fun (i, x) => (i, a.eval x) by apply Array.ext'; simp] at this
  | buildSlice t n ps =>
    rw [ho] at h
    replace h := ty_ev h
    obtain ⟨i, hi, h⟩ := h
    cases hel : i.el with
    | none => simp [hel, RM.ev] at h
    | some y =>
      obtain ⟨τ, ect, ez⟩ := y
      simp only [hel] at h
      replace h := bifn_ev h
      obtain ⟨hb, h⟩ := h
      simp only [Bool.not_eq_false', Bool.and_eq_true] at hb
      have hn : n = ps.size := Nat.eq_of_beq_eq_true hb.1
      have hs : n * τ.sz ≤ 16777216 := Nat.le_of_ble_eq_true hb.2
      replace h := opds_ev hG hT h
      obtain ⟨vs, hvs, h⟩ := h
      have hvl := hvs.length
      simp at hvl
      refine wp_value (s := Instr.buildSlice t n (ps.map fun (i, x) => (i, a.eval x))) (by simp only [execOp, ho]) ?_ hK
      have := buildSlice_does (nk := nk) hG hf hN (hE _ _ hi) hel (each_map hvs) (n := n) (by simp [hn, hvl]) hs h
      rwa [show (ps.toList.map fun p => (p.1, a.eval p.2)).toArray = ps.map fun (i, x) => (i, a.eval x) by apply Array.ext'; simp] at this
  | load t x =>
    rw [ho] at h
    replace h := opd_ev hG hT h
    obtain ⟨va, hv, h⟩ := h
    replace h := oneK_ev h
    obtain ⟨p, rfl, h⟩ := h
    exact wp_value (by simp only [execOp, ho]) (loadR_does hG hE hv h) hK
  | store t x y =>
    rw [ho] at h
    replace h := opd_ev hG hT h
    obtain ⟨vx, hx, h⟩ := h
    replace h := opd_ev hG hT h
    obtain ⟨vy, hy, h⟩ := h
    replace h := oneK_ev h
    obtain ⟨p, rfl, h⟩ := h
    obtain ⟨rfl, q', hr, hg, hs, hf'⟩ := storeR_does hG hE hx hy h
    unfold Oper.wp
    simp only [execOp, ho, Sem.run_bind, hr, Result.andThen_ok, Sem.run_pure, Oper.upon]
    exact hK undef q' hg hs rfl fun k hk => .inl (hf' k hk)
  | nilCheck x =>
    rw [ho] at h
    replace h := opd_ev hG hT h
    obtain ⟨va, hv, h⟩ := h
    have key : ∀ p, a.eval x = .pointer (some p) → va = v → ws = [] → o.wp c.P a q.w K Q := by
      intro p hp hva hws
      subst hva hws
      exact wp_pure (val := .pointer (some p)) hG (by simp only [execOp, ho]; rw [hp]; rfl) (by rw [← hp]; exact hv) hK
    split at h
    · rename_i k off
      simp only [RM.ev] at h
      cases hm : m k with
      | box cs =>
        simp only [hm] at h
        obtain ⟨rfl, rfl⟩ := ret_ev h
        obtain ⟨b, arr, hp, -⟩ := box_of hG hv hm
        exact key _ hp rfl rfl
      | _ => simp [hm, RM.ev] at h
    · obtain ⟨rfl, rfl⟩ := ret_ev h
      obtain ⟨b, o', hp, -⟩ := hv
      exact key _ hp rfl rfl
    · simp [RM.ev] at h
  | binOp op t x y u =>
    rw [ho] at h
    replace h := opd_ev hG hT h
    obtain ⟨vx, hx, h⟩ := h
    replace h := opd_ev hG hT h
    obtain ⟨vy, hy, h⟩ := h
    exact wp_value (s := do eqGuard op t x y (a.eval x) (a.eval y); binOp op t (a.eval x) (a.eval y)) (by simp only [execOp, ho]) (binR_does hG hE hx hy h) hK
  | unOp op t x =>
    rw [ho] at h
    replace h := opd_ev hG hT h
    obtain ⟨vx, hx, h⟩ := h
    exact wp_value (by simp only [execOp, ho]) (unR_does hG hx h) hK
  | convert s t x =>
    rw [ho] at h
    replace h := ty_ev h
    obtain ⟨si, hsi, h⟩ := h
    replace h := ty_ev h
    obtain ⟨ti, hti, h⟩ := h
    replace h := opd_ev hG hT h
    obtain ⟨vx, hx, h⟩ := h
    exact wp_value (by simp only [execOp, ho]) (convR_does hG (hE _ _ hsi) (hE _ _ hti) hx h) hK
  | makeFunc fn first caps =>
    rw [ho] at h
    cases fn with
    | func f =>
      replace h := bif_ev h
      obtain ⟨hb, h⟩ := h
      replace h := opds_ev hG hT h
      obtain ⟨vs, hvs, h⟩ := h
      cases hone : ones vs with
      | none => simp [hone, RM.ev] at h
      | some cs =>
        simp only [hone] at h
        obtain ⟨rfl, rfl⟩ := ret_ev h
        have hb : first.size = 0 := Nat.eq_of_beq_eq_true hb
        have hfirst : first = #[] := Array.eq_empty_of_size_eq_zero hb
        subst hfirst
        exact wp_pure (v := .clo f cs) (val := .func (.func f) #[] (caps.map a.eval)) hG (by simp [execOp, ho, Instr.makeFunc]) ⟨_, rfl, by simpa using ones_cells hvs hone⟩ hK
    | _ => simp [opRM, RM.ev] at h
  | makeSlice t l cp =>
    rw [ho] at h
    replace h := ty_ev h
    obtain ⟨i, hi, h⟩ := h
    cases hel : i.el with
    | none => simp [hel, RM.ev] at h
    | some y =>
      obtain ⟨τ, ect, ez⟩ := y
      simp only [hel] at h
      replace h := opd_ev hG hT h
      obtain ⟨vl, hl, h⟩ := h
      replace h := opd_ev hG hT h
      obtain ⟨vc, hc, h⟩ := h
      replace h := intK_ev h
      obtain ⟨k, n, rfl, h⟩ := h
      replace h := intK_ev h
      obtain ⟨k', n', rfl, h⟩ := h
      have e1 := int_of hl
      have e2 := int_of hc
      refine wp_value (s := Instr.makeSlice t (a.eval l) (a.eval cp)) (by simp only [execOp, ho]) ?_ hK
      rw [e1, e2]
      exact makeSlice_does hG hf hN (hE _ _ hi) hel h
  | slice t x lo hi mx =>
    rw [ho] at h
    cases mx with
    | some _ => simp [opRM, RM.ev] at h
    | none =>
      replace h := ty_ev h
      obtain ⟨i, hti, h⟩ := h
      replace h := opd_ev hG hT h
      obtain ⟨vx, hx, h⟩ := h
      replace h := oneK_ev h
      obtain ⟨p, rfl, h⟩ := h
      replace h := optK_ev hG hT h
      obtain ⟨la, hla, h⟩ := h
      replace h := optK_ev hG hT h
      obtain ⟨ha, hha, h⟩ := h
      exact wp_value (by simp only [execOp, ho, Option.map_none]) (sliceR_does hG (hE _ _ hti) hx hla hha h) hK
  | fieldAddr t x f =>
    rw [ho] at h
    replace h := ty_ev h
    obtain ⟨i, hti, h⟩ := h
    replace h := opd_ev hG hT h
    obtain ⟨vx, hx, h⟩ := h
    replace h := oneK_ev h
    obtain ⟨p, rfl, h⟩ := h
    cases hfl : i.flds[f]? with
    | none => simp [hfl, RM.ev] at h
    | some y =>
      obtain ⟨off, n⟩ := y
      simp only [hfl] at h
      exact wp_value (by simp only [execOp, ho]) (fieldR_does hG (hE _ _ hti) hfl hx h) hK
  | indexAddr t x i =>
    rw [ho] at h
    replace h := ty_ev h
    obtain ⟨ti, hti, h⟩ := h
    cases hel : ti.el with
    | none => simp [hel, RM.ev] at h
    | some y =>
      obtain ⟨σ, ect, ez⟩ := y
      simp only [hel] at h
      replace h := opd_ev hG hT h
      obtain ⟨vx, hx, h⟩ := h
      replace h := opd_ev hG hT h
      obtain ⟨vi, hi, h⟩ := h
      replace h := oneK_ev h
      obtain ⟨p, rfl, h⟩ := h
      replace h := intK_ev h
      obtain ⟨k, n, rfl, h⟩ := h
      have e1 := int_of hi
      refine wp_value (s := Instr.indexAt t (a.eval x) (a.eval i)) (by simp only [execOp, ho]) ?_ hK
      rw [e1]
      exact indexAddrR_does hG hE hti hel hx h
  | index t x i =>
    rw [ho] at h
    replace h := ty_ev h
    obtain ⟨ti, hti, h⟩ := h
    replace h := opd_ev hG hT h
    obtain ⟨vx, hx, h⟩ := h
    replace h := opd_ev hG hT h
    obtain ⟨vi, hi, h⟩ := h
    replace h := oneK_ev h
    obtain ⟨p, rfl, h⟩ := h
    replace h := intK_ev h
    obtain ⟨k, n, rfl, h⟩ := h
    replace h := bifn_ev h
    obtain ⟨hs, h⟩ := h
    have e1 := int_of hi
    cases p with
    | d y =>
      cases y with
      | s s =>
        refine wp_value (s := Instr.index t (a.eval x) (a.eval i)) (by simp only [execOp, ho]) ?_ hK
        rw [e1]
        exact index_does hG (hE _ _ hti) (by simpa using hs) hx h
      | _ => simp [RM.ev] at h
    | _ => simp [RM.ev] at h
  | extract x n =>
    rw [ho] at h
    replace h := opd_ev hG hT h
    obtain ⟨vx, hx, h⟩ := h
    exact wp_value (by simp only [execOp, ho]) (extract_does hG hx h) hK
  | call cl =>
    rw [ho] at h
    obtain ⟨callee, args, argTypes⟩ := cl
    have harr : ∀ {l : List TypeId}, argTypes.toList = l → argTypes = l.toArray := fun h => by apply Array.ext'; simpa using h
    cases callee with
    | builtin b =>
      cases b with
      | len =>
        simp only [opRM] at h
        split at h
        · rename_i t ht
          replace h := ty_ev h
          obtain ⟨i, hi, h⟩ := h
          replace h := opds_ev hG hT h
          obtain ⟨vs, hvs, h⟩ := h
          split at h
          · rename_i v1
            obtain ⟨u, hu, hR⟩ := each1 hvs
            replace h := oneK_ev h
            obtain ⟨p, rfl, h⟩ := h
            refine wp_value (s := Builtin.len_ argTypes o.type (args.map a.eval)) (by simp only [execOp, ho, resolve, invoke, builtin]; rfl) ?_ hK
            rw [args1 hu, harr ht]
            exact lenR_does hG (hE _ _ hi) hR h
          · simp [RM.ev] at h
        · simp [RM.ev] at h
      | append =>
        simp only [opRM] at h
        split at h
        · rename_i t t' ht
          replace h := ty_ev h
          obtain ⟨i, hi, h⟩ := h
          cases hel : i.el with
          | none => simp [hel, RM.ev] at h
          | some y =>
            obtain ⟨τ, ect, ez⟩ := y
            simp only [hel] at h
            replace h := ty_ev h
            obtain ⟨i', hi', h⟩ := h
            cases hel' : i'.el with
            | none => simp [hel', RM.ev] at h
            | some y' =>
              obtain ⟨σ, ect', ez'⟩ := y'
              simp only [hel'] at h
              replace h := opds_ev hG hT h
              obtain ⟨vs, hvs, h⟩ := h
              split at h
              · rename_i v1 v2
                obtain ⟨u, u', hu, hR, hR'⟩ := each2 hvs
                replace h := oneK_ev h
                obtain ⟨p, rfl, h⟩ := h
                replace h := oneK_ev h
                obtain ⟨p', rfl, h⟩ := h
                refine wp_value (s := Builtin.append_ argTypes o.type (args.map a.eval)) (by simp only [execOp, ho, resolve, invoke, builtin]; rfl) ?_ hK
                rw [args2 hu, harr ht]
                exact appendR_does hG hf hN (hE _ _ hi) (hE _ _ hi') hel hel' hR hR' h
              · simp [RM.ev] at h
        · simp [RM.ev] at h
      | min =>
        replace h := opds_ev hG hT h
        obtain ⟨vs, hvs, h⟩ := h
        split at h
        · rename_i v1 v2
          obtain ⟨u, u', hu, hR, hR'⟩ := each2 hvs
          replace h := intK_ev h
          obtain ⟨k, n, rfl, h⟩ := h
          replace h := intK_ev h
          obtain ⟨k', n', rfl, h⟩ := h
          obtain rfl := int_of hR
          obtain rfl := int_of hR'
          refine wp_value (s := Builtin.min_ argTypes o.type (args.map a.eval)) (by simp only [execOp, ho, resolve, invoke, builtin]; rfl) ?_ hK
          rw [args2 hu]
          exact min_does hG h
        · simp [RM.ev] at h
      | max =>
        replace h := opds_ev hG hT h
        obtain ⟨vs, hvs, h⟩ := h
        split at h
        · rename_i v1 v2
          obtain ⟨u, u', hu, hR, hR'⟩ := each2 hvs
          replace h := intK_ev h
          obtain ⟨k, n, rfl, h⟩ := h
          replace h := intK_ev h
          obtain ⟨k', n', rfl, h⟩ := h
          obtain rfl := int_of hR
          obtain rfl := int_of hR'
          refine wp_value (s := Builtin.max_ argTypes o.type (args.map a.eval)) (by simp only [execOp, ho, resolve, invoke, builtin]; rfl) ?_ hK
          rw [args2 hu]
          exact max_does hG h
        · simp [RM.ev] at h
      | _ => simp [opRM, RM.ev] at h
    | invoke r n => simp [opRM, RM.ev] at h
    | value f =>
      replace h := opd_ev hG hT h
      obtain ⟨vf, hvf, h⟩ := h
      replace h := opds_ev hG hT h
      obtain ⟨vs, hvs, h⟩ := h
      split at h
      · rename_i gf caps
        obtain ⟨cvs, hfv, hcaps⟩ := hvf
        unfold callR at h
        cases hl : lk gf E.fns with
        | none => simp [hl, RM.ev] at h
        | some rf =>
          simp only [hl] at h
          obtain ⟨hok, fn, hfn, hn1, hn2⟩ := hF _ _ hl
          have hargs : Each (AVR q) (args.toList.map a.eval ++ cvs.toList) (vs ++ caps.map .one) := by
            refine Each.append hvs ?_
            have : ∀ {us : List Value} {cs : List A0}, cellsR q us cs → Each (AVR q) us (cs.map .one) := by
              intro us cs h
              induction cs generalizing us with
              | nil => cases us with
                | nil => trivial
                | cons _ _ => exact h.elim
              | cons x xs ih => cases us with
                | nil => exact h.elim
                | cons u us => exact ⟨h.1, ih h.2⟩
            exact this hcaps
          have hcall := hok rfl hG hfr hN hargs h
          unfold Oper.wp
          have hex : execOp a.eval o = callFunc gf ((args.toList.map a.eval ++ cvs.toList).toArray) := by
            simp only [execOp, ho, resolve, hfv, Deferred.ofValue]
            show callFunc gf ((#[] ++ args.map a.eval) ++ cvs) = _
            congr 1
            apply Array.ext'
            simp
          rw [hex]
          refine upon_call hfn hn1 hn2 (hcall.mono fun e w' ⟨val, q', he, hw, h1, h2, h3, h4⟩ => ?_)
          subst hw
          exact ⟨val, he, hK val q' h1 h2 h3 h4⟩
      · simp [RM.ev] at h
  | _ => rw [ho] at h; simp [opRM, RM.ev] at h
end
end Ai
end Go.Proofs.Ytfjdfbdiichhdaa
