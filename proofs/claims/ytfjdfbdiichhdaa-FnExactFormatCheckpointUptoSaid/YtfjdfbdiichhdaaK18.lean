/-
  The abstract interpreter, eighteenth part: regions, in the text's order and in any order that the edges allow. Conditions: as for the operations.
-/
import Derived.Test.YtfjdfbdiichhdaaK17
namespace Go.Proofs.Ytfjdfbdiichhdaa
open Go
namespace Ai

/- 1. The relation of an activation. Keys below 'nx' may be in use, besides those of the operations that 'S' names (counted from nx on, 32 each). -/
def Rel (c : Ctx) (m : Mem) (fr : Key → Prop) (a : Act) (w : World) : Prop :=
  ∃ g q, Good c m g q ∧ Tmps c g a ∧ q.w = w ∧ ∀ k, q.fr k → fr k

theorem act_put {c : Ctx} {m : Mem} {g : Key → Value} {q : Wld} {a : Act} (hG : Good c m g q) (hT : Tmps c g a) {t : Nat} (ht : t < c.N) {val : Value} {v : AV} (hv : AVR q val v) :
    Good c (upd m t (.av v)) (fun k => if k = t then val else g k) q ∧ Tmps c (fun k => if k = t then val else g k) (a.put (some t) val) := by
  constructor
  · exact { hG with
      low := fun k hk => by
        by_cases e : k = t
        · subst e; exact ⟨v, upd_same _ _ _⟩
        · rw [upd_ne _ _ e]; exact hG.low k hk
      high := fun k hk u hu => by
        have e : k ≠ t := by omega
        rw [upd_ne _ _ e] at hu
        exact hG.high k hk u hu
      mem := fun k => by
        by_cases e : k = t
        · subst e; rw [upd_same]; simp only [if_true]; exact hv
        · rw [upd_ne _ _ e]; simp only [e, if_false]; exact hG.mem k }
  · obtain ⟨h1, h2, h3⟩ := hT
    refine ⟨h1, by simp [Act.put, h2], fun j hj => ?_⟩
    by_cases e : j = t
    · subst e; simp [Act.put, h2, hj]
    · simp only [e, if_false]
      rw [← h3 j hj]
      simp only [Act.put, Array.getD_eq_getD_getElem?]
      rw [Array.getElem?_setIfInBounds_ne (fun h => e h.symm)]
theorem act_put_none {c : Ctx} {g : Key → Value} {a : Act} (hT : Tmps c g a) (val : Value) : Tmps c g (a.put none val) := hT

theorem slot_ne {nx i j k : Nat} (h1 : nx + 32 * i ≤ k) (h2 : k < nx + 32 * i + 32) (h3 : nx + 32 * j ≤ k) (h4 : k < nx + 32 * (j + 1)) : j = i := by omega
theorem slot_lo {nx i k : Nat} (h1 : nx + 32 * i ≤ k) (h3 : k < nx) : False := by omega

/- 2. One step of the walk, as a relation: the operation at place i, run on m, with the writes ws (its slot among them) and the keys read. -/
inductive OpStep (E : Env) (ops : Array Oper) (nx : Key) (i : Nat) (m : Mem) : List Key → List (Key × C) → Prop where
  | run (o : Oper) (v : AV) (ws : List (Key × C)) (rd : List Key) (ho : ops[i]? = some o) (hg : o.guard = none ∨ ∃ j want g, o.guard = some (j, want) ∧ (ops[j]?).bind (·.dst) = some g ∧ m g = lit want ∧ g ∈ rd)
      (hev : (opRM E (nx + 32 * i) o.op).ev m = some (v, ws)) (hrd : ∀ k ∈ (opRM E (nx + 32 * i) o.op).rds m, k ∈ rd) (hd : ∀ t, o.dst = some t → t < E.nt) :
      OpStep E ops nx i m rd (ws ++ (match o.dst with | some t => [(t, .av v)] | none => []))
  | skip (o : Oper) (j : Nat) (want : Bool) (g : Key) (rd : List Key) (ho : ops[i]? = some o) (hg : o.guard = some (j, want)) (hj : (ops[j]?).bind (·.dst) = some g)
      (hv : m g = lit (!want) ∨ m g = .av (.one .uv)) (hrd : g ∈ rd) (hd : ∀ t, o.dst = some t → t < E.nt) :
      OpStep E ops nx i m rd (match o.dst with | some t => [(t, .av (.one .uv))] | none => [])

def FrS (nx : Key) (S : Nat → Prop) (k : Key) : Prop := k < nx ∨ ∃ j, S j ∧ nx + 32 * j ≤ k ∧ k < nx + 32 * (j + 1)

theorem lit_lt {c : Ctx} {m : Mem} {g : Key → Value} {q : Wld} {a : Act} (hG : Good c m g q) (hT : Tmps c g a) {k : Key} {x : A0} (hm : m k = .av (.one x)) (hx : x ≠ .und) : k < c.N ∧ ∃ v, a.tmps[k]? = some v ∧ A0R q v x := by
  have hk : k < c.N := by
    rcases Nat.lt_or_ge k c.N with h | h
    · exact h
    · have := hG.high k h _ hm
      cases this
      exact absurd rfl hx
  refine ⟨hk, g k, ?_, ?_⟩
  · have h1 := hT.2.2 k hk
    have h2 : k < a.tmps.size := by rw [hT.2.1]; exact hk
    rw [Array.getD_eq_getD_getElem?, Array.getElem?_eq_getElem h2] at h1
    rw [Array.getElem?_eq_getElem h2]
    exact congrArg some h1
  · have := hG.mem k
    rw [hm] at this
    exact this

section
variable {c : Ctx} {m : Mem} {a : Act} {w : World} {E : Env} {ops : Array Oper} {nx : Key} {Q : Exit → Act → World → Prop} {K : Act → World → Prop}

theorem rel_put {g : Key → Value} {q : Wld} (hG : Good c m g q) (hT : Tmps c g a) {o : Oper} (hd : ∀ t, o.dst = some t → t < c.N) {val : Value} {v : AV} (hv : AVR q val v) {fr : Key → Prop} (hfr : ∀ k, q.fr k → fr k) :
    Rel c (upds m (match o.dst with | some t => [(t, .av v)] | none => [])) fr (a.put o.dst val) q.w := by
  cases hdst : o.dst with
  | none => exact ⟨g, q, hG, hT, rfl, hfr⟩
  | some t =>
    obtain ⟨h1, h2⟩ := act_put hG hT (hd t hdst) hv
    exact ⟨_, q, h1, h2, rfl, hfr⟩

theorem step_wpOp (hE : TysOK c.P E) (hF : FnsOK c.P E) (hnt : E.nt = c.N) (hN : c.N ≤ nx) {S : Nat → Prop} {i : Nat} (hi : ¬ S i) {rd : List Key} {ws : List (Key × C)} (h : OpStep E ops nx i m rd ws)
    (hR : Rel c m (FrS nx S) a w) (hK : ∀ a' w', Rel c (upds m ws) (FrS nx (fun j => S j ∨ j = i)) a' w' → K a' w') : wpOp c.P ops Q i K a w := by
  obtain ⟨g, q, hG, hT, rfl, hfr⟩ := hR
  cases h with
  | run o v ws rd ho hg hev hrd hd =>
    unfold wpOp
    simp only [ho]
    have hw : Region.wanted o (yielded ops a.tmps) = true := by
      rcases hg with hg | ⟨j, want, gk, hg, hj, hm, -⟩
      · simp [Region.wanted, hg]
      · obtain ⟨hk, u, hu, hv⟩ := lit_lt hG hT hm (by simp)
        cases hv
        simp [Region.wanted, hg, yielded, hj, hu]
    rw [if_pos hw]
    refine .inl (op_wp hG hT hE hF (nk := nx + 32 * i) (fun k h1 h2 hk => ?_) (by omega) hev fun val q' hG' hs hv hfr' => hK _ _ ?_)
    · have h1 : nx + 32 * i ≤ k := h1
      have h2 : k < nx + 32 * i + 32 := h2
      rcases (show k < nx ∨ ∃ j, S j ∧ nx + 32 * j ≤ k ∧ k < nx + 32 * (j + 1) from hfr k hk) with h3 | ⟨j, hj, h3, h4⟩
      · exact slot_lo h1 h3
      · exact hi (slot_ne h1 h2 h3 h4 ▸ hj)
    · rw [upds_append]
      refine rel_put hG' hT (fun t ht => by rw [← hnt]; exact hd t ht) hv fun k hk => ?_
      rcases hfr' k hk with h3 | ⟨h3, h4⟩
      · rcases hfr k h3 with h5 | ⟨j, hj, h5, h6⟩
        · exact .inl h5
        · exact .inr ⟨j, .inl hj, h5, h6⟩
      · exact .inr ⟨i, .inr rfl, h3, by omega⟩
  | skip o j want gk rd ho hg hj hv hrd hd =>
    unfold wpOp
    simp only [ho]
    have hw : Region.wanted o (yielded ops a.tmps) = false := by
      rcases hv with hv | hv
      · obtain ⟨hk, u, hu, hv⟩ := lit_lt hG hT hv (by simp)
        cases hv
        cases want <;> simp [Region.wanted, hg, yielded, hj, hu]
      · obtain ⟨hk, u, hu, hv⟩ := lit_lt hG hT hv (by simp)
        have hv : u = undef := hv
        subst hv
        simp [Region.wanted, hg, yielded, hj, hu, undef]
    rw [if_neg (by simp [hw])]
    refine hK _ _ (rel_put hG hT (fun t ht => by rw [← hnt]; exact hd t ht) (show AVR q undef (.one .uv) from rfl) fun k hk => ?_)
    rcases hfr k hk with h5 | ⟨j, hj, h5, h6⟩
    · exact .inl h5
    · exact .inr ⟨j, .inl hj, h5, h6⟩
end

/- 3. The walk in the text's order. -/
inductive Text (E : Env) (ops : Array Oper) (nx : Key) : Nat → Mem → List TrE → Nat → Mem → List TrE → Prop where
  | nil (i m tr) : Text E ops nx i m tr i m tr
  | cons (i m tr rd ws) (y : TrE) (n m' tr') (hs : OpStep E ops nx i m rd ws) (hy : y.i = i) (h1 : ∀ k ∈ rd, k ∈ y.rd) (h2 : ∀ e ∈ ws, e.1 ∈ y.wr) (ht : Text E ops nx (i + 1) (upds m ws) (y :: tr) n m' tr') : Text E ops nx i m tr n m' tr'

theorem lit_upd {m : Mem} {g : Key} {b : Bool} (h : m g = lit b) : upd m g (lit b) = m := by
  funext k
  by_cases e : k = g
  · subst e; rw [upd_same, h]
  · rw [upd_ne _ _ e]

theorem opsR_text {E : Env} {ops : Array Oper} {nx : Key} {r : List (Bool × DV)} {k : Mem → List TrE → Res} : ∀ (os : List Oper) (i : Nat) (m : Mem) (tr : List TrE), (∀ (t : Nat) o, os[t]? = some o → ops[i + t]? = some o) →
    opsR E ops nx os i m tr k = some r → ∃ m' tr', Text E ops nx i m tr (i + os.length) m' tr' ∧ k m' tr' = some r
  | [], i, m, tr, _, h => ⟨m, tr, .nil _ _ _, h⟩
  | o :: os, i, m, tr, ho, h => by
    have ho0 : ops[i]? = some o := by simpa using ho 0 o rfl
    have rest : ∀ {m : Mem} {tr : List TrE}, opsR E ops nx os (i + 1) m tr k = some r → ∃ m' tr', Text E ops nx (i + 1) m tr (i + (o :: os).length) m' tr' ∧ k m' tr' = some r := fun {m tr} h => by
      have := opsR_text os (i + 1) m tr (fun t o' ht => by have := ho (t + 1) o' (by simpa using ht); rwa [show i + 1 + t = i + (t + 1) by omega]) h
      rwa [show i + (o :: os).length = i + 1 + os.length by simp; omega]
    have runs : ∀ {rd : List Key}, (o.guard = none ∨ ∃ j want g, o.guard = some (j, want) ∧ (ops[j]?).bind (·.dst) = some g ∧ m g = lit want ∧ g ∈ rd) →
        (step E (nx + 32 * i) o i m rd tr fun m tr => opsR E ops nx os (i + 1) m tr k) = some r → ∃ m' tr', Text E ops nx i m tr (i + (o :: os).length) m' tr' ∧ k m' tr' = some r := by
      intro rd hg h
      obtain ⟨v, ws, hev, h⟩ := RM.run_ev _ h
      cases hdst : o.dst with
      | none =>
        simp only [hdst] at h
        obtain ⟨m', tr', ht, hk⟩ := rest h
        refine ⟨m', tr', .cons i m tr (((opRM E (nx + 32 * i) o.op).rds m).reverse ++ rd) ws _ _ _ _ ?_ rfl (fun k hk => hk) (fun e he => List.mem_map_of_mem he) ht, hk⟩
        have := OpStep.run (E := E) (nx := nx) (m := m) o v ws (((opRM E (nx + 32 * i) o.op).rds m).reverse ++ rd) ho0 (by
          rcases hg with hg | ⟨j, want, g, a, b, c, d⟩
          · exact .inl hg
          · exact .inr ⟨j, want, g, a, b, c, by simp [d]⟩) hev (fun k hk => by simp [hk]) (fun t ht => by rw [hdst] at ht; cases ht)
        simpa [hdst] using this
      | some t =>
        simp only [hdst] at h
        cases hb : Nat.blt t E.nt with
        | false => simp [hb] at h
        | true =>
          simp only [hb, Bool.not_true, cond_false] at h
          obtain ⟨m', tr', ht, hk⟩ := rest h
          refine ⟨m', tr', .cons i m tr (((opRM E (nx + 32 * i) o.op).rds m).reverse ++ rd) (ws ++ [(t, .av v)]) _ _ _ _ ?_ rfl (fun k hk => hk) (fun e he => ?_) (by rw [upds_append]; exact ht), hk⟩
          · have := OpStep.run (E := E) (nx := nx) (m := m) o v ws (((opRM E (nx + 32 * i) o.op).rds m).reverse ++ rd) ho0 (by
              rcases hg with hg | ⟨j, want, g, a, b, c, d⟩
              · exact .inl hg
              · exact .inr ⟨j, want, g, a, b, c, by simp [d]⟩) hev (fun k hk => by simp [hk]) (fun t' ht' => by rw [hdst] at ht'; cases ht'; exact Nat.le_of_ble_eq_true hb)
            simpa [hdst] using this
          · rcases List.mem_append.1 he with he | he
            · exact List.mem_cons_of_mem _ (List.mem_map_of_mem he)
            · simp at he; subst he; simp
    have skips : ∀ {j : Nat} {want : Bool} {g : Key}, o.guard = some (j, want) → (ops[j]?).bind (·.dst) = some g → (m g = lit (!want) ∨ m g = .av (.one .uv)) →
        (skipOp E o g i m tr fun m tr => opsR E ops nx os (i + 1) m tr k) = some r → ∃ m' tr', Text E ops nx i m tr (i + (o :: os).length) m' tr' ∧ k m' tr' = some r := by
      intro j want g hg hj hv h
      unfold skipOp at h
      cases hdst : o.dst with
      | none =>
        simp only [hdst] at h
        obtain ⟨m', tr', ht, hk⟩ := rest h
        refine ⟨m', tr', .cons i m tr [g] [] _ _ _ _ ?_ rfl (fun k hk => hk) (fun e he => by simp at he) ht, hk⟩
        have := OpStep.skip (E := E) (nx := nx) (m := m) o j want g [g] ho0 hg hj hv (by simp) (fun t ht => by rw [hdst] at ht; cases ht)
        simpa [hdst] using this
      | some t =>
        simp only [hdst] at h
        cases hb : Nat.blt t E.nt with
        | false => simp [hb] at h
        | true =>
          simp only [hb, Bool.not_true, cond_false] at h
          obtain ⟨m', tr', ht, hk⟩ := rest h
          refine ⟨m', tr', .cons i m tr [g] [(t, .av (.one .uv))] _ _ _ _ ?_ rfl (fun k hk => hk) (fun e he => by simp at he; subst he; simp) ht, hk⟩
          have := OpStep.skip (E := E) (nx := nx) (m := m) o j want g [g] ho0 hg hj hv (by simp) (fun t' ht' => by rw [hdst] at ht'; cases ht'; exact Nat.le_of_ble_eq_true hb)
          simpa [hdst] using this
    simp only [opsR] at h
    cases hg : o.guard with
    | none =>
      simp only [hg] at h
      exact runs (.inl hg) h
    | some y =>
      obtain ⟨j, want⟩ := y
      simp only [hg] at h
      cases hj : (ops[j]?).bind (·.dst) with
      | none => simp [hj] at h
      | some gk =>
        simp only [hj] at h
        split at h
        · rename_i v hm
          cases v with
          | true =>
            rw [lit_upd (b := true) hm] at h
            simp only [cond_true] at h
            cases want with
            | true => exact runs (.inr ⟨j, true, gk, hg, hj, hm, by simp⟩) h
            | false => exact skips hg hj (.inl hm) h
          | false =>
            rw [lit_upd (b := false) hm] at h
            simp only [cond_false] at h
            cases want with
            | true => exact skips hg hj (.inl hm) h
            | false => exact runs (.inr ⟨j, false, gk, hg, hj, hm, by simp⟩) h
        · rename_i hm
          exact skips hg hj (.inr hm) h
        · cases h

theorem Text.le {E : Env} {ops : Array Oper} {nx : Key} {i n : Nat} {m m' : Mem} {tr tr' : List TrE} (h : Text E ops nx i m tr n m' tr') : i ≤ n := by
  induction h with
  | nil => exact Nat.le_refl _
  | cons _ _ _ _ _ _ _ _ _ _ _ _ _ _ ih => omega

theorem text_wpOps {c : Ctx} {E : Env} {ops : Array Oper} {nx : Key} {Q : Exit → Act → World → Prop} (hE : TysOK c.P E) (hF : FnsOK c.P E) (hnt : E.nt = c.N) (hN : c.N ≤ nx) {i n : Nat} {m m' : Mem} {tr tr' : List TrE}
    (h : Text E ops nx i m tr n m' tr') : ∀ {a : Act} {w : World}, Rel c m (FrS nx (· < i)) a w → (∀ a' w', Rel c m' (FrS nx (· < n)) a' w' → Q .normal a' w') → wpOps c.P ops Q (List.range' i (n - i)) a w := by
  induction h with
  | nil i m tr => intro a w hR hQ; simp [wpOps]; exact hQ _ _ hR
  | cons i m tr rd ws y n m' tr' hs hy h1 h2 ht ih =>
    intro a w hR hQ
    have hle := ht.le
    rw [show n - i = (n - (i + 1)) + 1 by omega, List.range'_succ, wpOps_cons]
    refine step_wpOp hE hF hnt hN (by omega) hs hR fun a' w' hR' => ih ?_ hQ
    obtain ⟨g, q, hG, hT, hw, hfr⟩ := hR'
    refine ⟨g, q, hG, hT, hw, fun k hk => ?_⟩
    rcases hfr k hk with h | ⟨j, hj, h3, h4⟩
    · exact .inl h
    · exact .inr ⟨j, by rcases hj with hj | hj <;> omega, h3, h4⟩

end Ai
end Go.Proofs.Ytfjdfbdiichhdaa
