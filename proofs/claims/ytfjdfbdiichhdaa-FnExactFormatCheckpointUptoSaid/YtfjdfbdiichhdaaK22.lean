/-
  The abstract interpreter, twenty-second part: a function's code, run on deep values, is its contract. Conditions: as for code.
-/
import Derived.Test.YtfjdfbdiichhdaaK21
namespace Go.Proofs.Ytfjdfbdiichhdaa
open Go
namespace Ai

def resSem (tmps : Array Value) (r : ResultVar) : Sem Value := match r with
  | .tmp t => pure (tmps.getD t undef)
  | .cell a t => do loadVar t (← asAddr (tmps.getD a undef))

theorem results0 {fn : Func} {P : Program} {w : World} {tmps : Array Value} (h : fn.results = #[]) : (results fn tmps).run P w = .ok (pack []) w := by
  simp [results, h, pack]
theorem results1 {fn : Func} {P : Program} {w : World} {tmps : Array Value} {r : ResultVar} {v : Value} (h : fn.results = #[r]) (h1 : (resSem tmps r).run P w = .ok v w) : (results fn tmps).run P w = .ok (pack [v]) w := by
  cases r <;> simp [resSem] at h1 <;> simp [results, h, h1, pack]
theorem results2 {fn : Func} {P : Program} {w : World} {tmps : Array Value} {r s : ResultVar} {v u : Value} (h : fn.results = #[r, s]) (h1 : (resSem tmps r).run P w = .ok v w) (h2 : (resSem tmps s).run P w = .ok u w) :
    (results fn tmps).run P w = .ok (pack [v, u]) w := by
  cases r with
  | tmp t =>
    simp [resSem] at h1
    cases s with
    | tmp t' => simp [resSem] at h2; simp [results, h, h1, h2, pack]
    | cell x y =>
      simp [resSem] at h2
      cases hA : Sem.run P (asAddr (tmps[x]?.getD undef)) w <;> simp [hA] at h2
      simp [results, h, h1, hA, h2, pack]
  | cell x y =>
    simp [resSem] at h1
    cases hA : Sem.run P (asAddr (tmps[x]?.getD undef)) w <;> simp [hA] at h1
    cases s with
    | tmp t' => simp [resSem] at h2; simp [results, h, hA, h1, h2, pack]
    | cell x' y' =>
      simp [resSem] at h2
      cases hB : Sem.run P (asAddr (tmps[x']?.getD undef)) w <;> simp [hB] at h2
      simp [results, h, hA, h1, hB, h2, pack]

/- A result's cell, read. -/
theorem resSem_cases {P : Program} {w : World} {tmps : Array Value} {r : ResultVar} {v : Value} (h : (resSem tmps r).run P w = .ok v w) :
    (∃ t, r = .tmp t ∧ tmps.getD t undef = v) ∨ ∃ a t A, r = .cell a t ∧ (asAddr (tmps.getD a undef)).run P w = .ok A w ∧ (loadVar t A).run P w = .ok v w := by
  cases r with
  | tmp t => simp [resSem] at h; exact .inl ⟨t, rfl, by simpa using h⟩
  | cell a t =>
    refine .inr ?_
    simp only [resSem, Sem.run_bind] at h
    cases hA : (asAddr (tmps.getD a undef)).run P w with
    | ok A w' =>
      have hw : w' = w := by
        generalize tmps.getD a undef = v at hA
        cases v <;> (try (rename_i p; cases p)) <;> simp [asAddr, runtimePanic] at hA <;> first | exact hA.2.symm | skip
      subst hw
      rw [hA] at h
      exact ⟨a, t, A, rfl, hA, h⟩
    | halt e w' => rw [hA] at h; simp at h
theorem results3 {fn : Func} {P : Program} {w : World} {tmps : Array Value} {r s u : ResultVar} {a b c : Value} (h : fn.results = #[r, s, u]) (h1 : (resSem tmps r).run P w = .ok a w) (h2 : (resSem tmps s).run P w = .ok b w) (h3 : (resSem tmps u).run P w = .ok c w) :
    (results fn tmps).run P w = .ok (pack [a, b, c]) w := by
  rcases resSem_cases h1 with ⟨t1, rfl, rfl⟩ | ⟨x1, t1, A1, rfl, p1, q1⟩ <;> rcases resSem_cases h2 with ⟨t2, rfl, rfl⟩ | ⟨x2, t2, A2, rfl, p2, q2⟩ <;> rcases resSem_cases h3 with ⟨t3, rfl, rfl⟩ | ⟨x3, t3, A3, rfl, p3, q3⟩ <;>
    simp_all [results, pack]
theorem results4 {fn : Func} {P : Program} {w : World} {tmps : Array Value} {r s u z : ResultVar} {a b c d : Value} (h : fn.results = #[r, s, u, z]) (h1 : (resSem tmps r).run P w = .ok a w) (h2 : (resSem tmps s).run P w = .ok b w) (h3 : (resSem tmps u).run P w = .ok c w) (h4 : (resSem tmps z).run P w = .ok d w) :
    (results fn tmps).run P w = .ok (pack [a, b, c, d]) w := by
  rcases resSem_cases h1 with ⟨t1, rfl, rfl⟩ | ⟨x1, t1, A1, rfl, p1, q1⟩ <;> rcases resSem_cases h2 with ⟨t2, rfl, rfl⟩ | ⟨x2, t2, A2, rfl, p2, q2⟩ <;> rcases resSem_cases h3 with ⟨t3, rfl, rfl⟩ | ⟨x3, t3, A3, rfl, p3, q3⟩ <;> rcases resSem_cases h4 with ⟨t4, rfl, rfl⟩ | ⟨x4, t4, A4, rfl, p4, q4⟩ <;>
    simp_all [results, pack]
theorem resultsN {fn : Func} {P : Program} {w : World} {tmps : Array Value} {vals : List Value} (hsz : fn.results.size ≤ 4) (h1 : Each (fun val x => (resSem tmps x).run P w = .ok val w) vals fn.results.toList) : (results fn tmps).run P w = .ok (pack vals) w := by
  cases hrs : fn.results with
  | mk l =>
    rw [hrs] at hsz h1
    match l, vals, h1 with
    | [], [], _ => exact results0 hrs
    | [x], [v], h1 => exact results1 hrs h1.1
    | [x, y], [v, u], h1 => exact results2 hrs h1.1 h1.2.1
    | [x, y, z], [v, u, s], h1 => exact results3 hrs h1.1 h1.2.1 h1.2.2.1
    | [x, y, z, t], [v, u, s, r], h1 => exact results4 hrs h1.1 h1.2.1 h1.2.2.1 h1.2.2.2.1
    | _ :: _ :: _ :: _ :: _ :: _, _, _ => simp at hsz
    | [], _ :: _, h1 => exact h1.elim
    | _ :: _, [], h1 => exact h1.elim
    | [_], _ :: _ :: _, h1 => exact h1.2.elim
    | _ :: _ :: _, [_], h1 => exact h1.2.elim
    | [_, _], _ :: _ :: _ :: _, h1 => exact h1.2.2.elim
    | _ :: _ :: _ :: _, [_, _], h1 => exact h1.2.2.elim
    | [_, _, _], _ :: _ :: _ :: _ :: _, h1 => exact h1.2.2.2.elim
    | _ :: _ :: _ :: _ :: _, [_, _, _], h1 => exact h1.2.2.2.elim
    | [_, _, _, _], _ :: _ :: _ :: _ :: _ :: _, h1 => exact h1.2.2.2.2.elim

section
variable {c : Ctx} {m : Mem} {g : Key → Value} {q : Wld} {nk : Key} {a : Act} {r : List (Bool × DV)}

theorem cells_load {t : TypeId} {i : TI} (hi : TyOK c.P t i) {b o : Nat} {us : List Value} {cs : List A0} (hcell : ∀ (j : Nat) (u : Value), us[j]? = some u → q.w.cell? ⟨b, o + j, none⟩ = some u)
    (hR : cellsR q us cs) (hl : cs.length = i.cts.length) (h1 : i.agg = true ∨ i.cts.length = 1) : ∃ val, (loadVar t ⟨b, o, none⟩).run c.P q.w = .ok val q.w ∧ compR q val (i.agg, cs) := by
  have hlen := hR.length
  obtain ⟨inf, d, z, h2, h3, h4, h5, h6, h7, h8, h9⟩ := hi.inf
  have hagg : (isAgg t).run c.P q.w = .ok i.agg q.w := by
    rw [← h9]
    simp only [isAgg, Sem.run_bind, run_underlying h3, Result.andThen_ok]
    cases d <;> rfl
  cases ha : i.agg with
  | true =>
    have hrun := run_loadCells_list (P := c.P) q.w ⟨b, o, none⟩ us (fun j v hj => by rw [add_lit]; exact hcell j v hj)
    refine ⟨.agg us.toArray, ?_, us.toArray, rfl, by simpa using hR⟩
    rw [ha] at hagg
    simp only [loadVar, Sem.run_bind, hagg, Result.andThen_ok, if_true, sizeOf, typeInfo, run_program, h2, Sem.run_pure]
    rw [show inf.size = us.length by omega, hrun]
    rfl
  | false =>
    rw [ha] at hagg h1
    have h1 : us.length = 1 := by
      rcases h1 with h1 | h1
      · cases h1
      · omega
    match us, h1 with
    | [u], _ =>
      refine ⟨u, ?_, hR⟩
      have := hcell 0 u rfl
      simp only [Nat.add_zero] at this
      simp only [loadVar, Sem.run_bind, hagg, Result.andThen_ok, Bool.false_eq_true, if_false, run_load, this]

theorem tmp_val (hG : Good c m g q) (hT : Tmps c g a) {u : Nat} {v : AV} (hm : m u = .av v) : AVR q (a.tmps.getD u undef) v := by
  by_cases hu : u < c.N
  · have hc := hG.mem u
    rw [hm] at hc
    rw [hT.2.2 u hu]
    exact hc
  · have := hG.high u (Nat.le_of_not_lt hu) v hm
    subst this
    trivial

theorem resCells_ok (hG : Good c m g q) (hT : Tmps c g a) {E : Env} (hE : TysOK c.P E) {x : ResultVar} {t : TypeId} {f : List A0 → List CT → Res} (h : resCells E m x t f = some r) :
    ∃ i cs val, lk t E.tys = some i ∧ f cs i.cts = some r ∧ cs.length = i.cts.length ∧ (resSem a.tmps x).run c.P q.w = .ok val q.w ∧ compR q val (i.agg, cs) := by
  unfold resCells at h
  cases hi : lk t E.tys with
  | none => simp [hi] at h
  | some i =>
    simp only [hi] at h
    cases x with
    | tmp u =>
      simp only at h
      split at h
      · rename_i cs hm
        cases hb : (i.agg && Nat.beq cs.length i.cts.length) with
        | false => simp [hb] at h
        | true =>
          simp only [hb, cond_true] at h
          obtain ⟨h1, h2⟩ := (Bool.and_eq_true _ _).mp hb
          refine ⟨i, cs, _, rfl, h, Nat.eq_of_beq_eq_true h2, rfl, ?_⟩
          rw [h1]
          exact tmp_val hG hT hm
      · rename_i y hm
        cases hb : (!i.agg && Nat.beq 1 i.cts.length) with
        | false => simp [hb] at h
        | true =>
          simp only [hb, cond_true] at h
          obtain ⟨h1, h2⟩ := (Bool.and_eq_true _ _).mp hb
          refine ⟨i, [y], _, rfl, h, Nat.eq_of_beq_eq_true h2, rfl, ?_⟩
          rw [show i.agg = false by simpa using h1]
          exact ⟨tmp_val hG hT hm, trivial⟩
      · cases h
    | cell u t' =>
      simp only at h
      cases ht : Nat.beq t t' with
      | false => simp [ht] at h
      | true =>
        have := Nat.eq_of_beq_eq_true ht
        subst this
        simp only [ht, Bool.not_true, cond_false] at h
        split at h
        · rename_i x off hm
          split at h
          · rename_i cs hx
            cases hb : (Nat.beq (cutAt cs off i.cts.length).length i.cts.length && (i.agg || Nat.beq i.cts.length 1)) with
            | false => simp [hb] at h
            | true =>
              simp only [hb, cond_true] at h
              obtain ⟨h1, h2⟩ := (Bool.and_eq_true _ _).mp hb
              obtain ⟨b, arr, hp, -, -, hb, hcs⟩ := box_of hG (tmp_val hG hT hm) hx
              obtain ⟨val, h3, h4⟩ := cells_load (c := c) (hE _ _ hi) (us := cutAt arr.toList off i.cts.length) (fun j u hj => by rw [hb.cell, ← Array.getElem?_toList]; exact cut_get hj) (Each.take _ (Each.drop _ hcs))
                (Nat.eq_of_beq_eq_true h1) ((Bool.or_eq_true _ _).mp h2 |>.imp id Nat.eq_of_beq_eq_true)
              refine ⟨i, _, val, rfl, h, Nat.eq_of_beq_eq_true h1, ?_, h4⟩
              show ((asAddr (a.tmps.getD u undef)) >>= fun ad => loadVar t ad).run c.P q.w = _
              rw [hp]
              simp only [asAddr, Sem.run_bind, Sem.run_pure, Result.andThen_ok]
              exact h3
          · cases h
        · cases h

/- The cells of the results. -/
def ExpC (m : Mem) (a : A0) (x : Bool × DV) : Prop := match a with
  | .d v => scalar v = true ∧ x = (true, v)
  | .nil => ∃ τ, x = (true, .sl τ [])
  | .ls k off len => ∃ τ own xs, m k = .arr τ own xs ∧ x = (own, .sl τ (sub xs off len))
  | _ => False
def lsKeys : List A0 → List Key
  | [] => []
  | .ls k _ _ :: r => k :: lsKeys r
  | _ :: r => lsKeys r

theorem expCells_ok : ∀ {cs : List A0} {ct : List CT} {used : List Key} {f : List (Bool × DV) → List Key → Res}, expCells m cs ct used f = some r → ∃ ds, Each (ExpC m) cs ds ∧ f ds ((lsKeys cs).reverse ++ used) = some r
  | [], ct, used, f, h => ⟨[], trivial, by simpa [expCells, lsKeys] using h⟩
  | y :: cs, ct, used, f, h => by
    have plain : ∀ {x : Bool × DV} {ct' : List CT}, (∀ k off len, y ≠ .ls k off len) → ExpC m y x → (expCells m cs ct' used fun ds u => f (x :: ds) u) = some r → ∃ ds, Each (ExpC m) (y :: cs) ds ∧ f ds ((lsKeys (y :: cs)).reverse ++ used) = some r := by
      intro x ct' hy hx h
      obtain ⟨ds, h1, h2⟩ := expCells_ok h
      refine ⟨x :: ds, ⟨hx, h1⟩, ?_⟩
      have : lsKeys (y :: cs) = lsKeys cs := by cases y <;> first | rfl | exact absurd rfl (hy _ _ _)
      rw [this]; exact h2
    cases y with
    | d v =>
      cases v with
      | sl τ xs => simp [expCells] at h
      | b x => exact plain (fun _ _ _ => by simp) ⟨rfl, rfl⟩ (by simpa only [expCells] using h)
      | i k n => exact plain (fun _ _ _ => by simp) ⟨rfl, rfl⟩ (by simpa only [expCells] using h)
      | s x => exact plain (fun _ _ _ => by simp) ⟨rfl, rfl⟩ (by simpa only [expCells] using h)
    | nil =>
      simp only [expCells] at h
      split at h
      · rename_i τ cr
        exact plain (fun _ _ _ => by simp) ⟨τ, rfl⟩ h
      · cases h
    | ls k off len =>
      simp only [expCells] at h
      split at h
      · rename_i τ own xs hm
        obtain ⟨ds, h1, h2⟩ := expCells_ok h
        exact ⟨_ :: ds, ⟨⟨τ, own, xs, hm, rfl⟩, h1⟩, by simpa [lsKeys] using h2⟩
      · cases h
    | _ => simp [expCells] at h

theorem lsKeys_append : ∀ {as bs : List A0}, lsKeys (as ++ bs) = lsKeys as ++ lsKeys bs
  | [], _ => rfl
  | y :: as, bs => by cases y <;> simp [lsKeys, lsKeys_append]

theorem resAll_ok (hG : Good c m g q) (hT : Tmps c g a) {E : Env} (hE : TysOK c.P E) : ∀ {rs : List ResultVar} {ts : List TypeId} {used : List Key} {f : List (Bool × DV) → List Key → Res} {res : List (Bool × Nat)}, resOf E.tys ts = some res → resAll E m rs ts used f = some r →
    ∃ (vals : List Value) (as : List A0) (ds : List (Bool × DV)), f ds ((lsKeys as).reverse ++ used) = some r ∧ Each (fun val x => (resSem a.tmps x).run c.P q.w = .ok val q.w) vals rs ∧ Each (compR q) vals (resSplit res as) ∧ Each (ExpC m) as ds
  | [], [], used, f, res, hres, h => by
    simp only [resOf, Option.some.injEq] at hres
    subst hres
    exact ⟨[], [], [], by simpa [resAll, lsKeys] using h, trivial, trivial, trivial⟩
  | x :: rs, t :: ts, used, f, res, hres, h => by
    simp only [resAll] at h
    obtain ⟨i, cs, val, h1, h, h2, h3, h4⟩ := resCells_ok hG hT hE h
    simp only [resOf, h1] at hres
    cases hr : resOf E.tys ts with
    | none => simp [hr] at hres
    | some res' =>
      simp only [hr, Option.some.injEq] at hres
      subst hres
      obtain ⟨ds, h5, h⟩ := expCells_ok h
      obtain ⟨vals, as, ds', h, h6, h7, h8⟩ := resAll_ok hG hT hE hr h
      refine ⟨val :: vals, cs ++ as, ds ++ ds', by rw [lsKeys_append, List.reverse_append, List.append_assoc]; exact h, ⟨h3, h6⟩, ?_, Each.append h5 h8⟩
      simp only [resSplit]
      rw [← h2, List.take_left' rfl, List.drop_left' rfl]
      exact ⟨h4, h7⟩
  | [], _ :: _, _, _, _, _, h => by simp [resAll] at h
  | _ :: _, [], _, _, _, _, h => by simp [resAll] at h

/- The objects of the results under the results' numbers. -/
def lsFind (x : Key) : List A0 → Nat → Option (Nat × Nat)
  | [], _ => none
  | .ls k off _ :: r, j => if k = x then some (j, off) else lsFind x r (j + 1)
  | _ :: r, j => lsFind x r (j + 1)
theorem nodupB_iff : ∀ {l : List Key}, nodupB l = true ↔ l.Nodup
  | [] => by simp [nodupB]
  | k :: r => by
    rw [List.nodup_cons, ← nodupB_iff]
    constructor
    · intro h
      obtain ⟨h1, h2⟩ := nodupB_cons h
      exact ⟨fun hk => h1 k hk rfl, h2⟩
    · rintro ⟨h1, h2⟩
      simp only [nodupB, Bool.and_eq_true, List.all_eq_true]
      refine ⟨fun j hj => ?_, h2⟩
      cases hb : Nat.beq k j with
      | false => rfl
      | true => exact absurd (Nat.eq_of_beq_eq_true hb ▸ hj) h1
theorem lsKeys_mem {x off : Nat} {len : Option Nat} : ∀ {as : List A0} {i : Nat}, as[i]? = some (.ls x off len) → x ∈ lsKeys as
  | [], _, h => by simp at h
  | y :: as, 0, h => by simp at h; subst h; simp [lsKeys]
  | y :: as, i + 1, h => by
    have := lsKeys_mem (as := as) (i := i) (by simpa using h)
    cases y <;> simp [lsKeys, this]
theorem lsFind_get {x off : Nat} {len : Option Nat} : ∀ {as : List A0} {i j : Nat}, (lsKeys as).Nodup → as[i]? = some (.ls x off len) → lsFind x as j = some (j + i, off)
  | [], _, _, _, h => by simp at h
  | y :: as, 0, j, _, h => by simp at h; subst h; simp [lsFind]
  | y :: as, i + 1, j, hn, h => by
    have h' : as[i]? = some (.ls x off len) := by simpa using h
    have rest : (lsKeys as).Nodup → lsFind x as (j + 1) = some (j + (i + 1), off) := fun hn => by
      have := lsFind_get (j := j + 1) hn h'
      rwa [show j + 1 + i = j + (i + 1) by omega] at this
    cases y with
    | ls k o l =>
      simp only [lsKeys, List.nodup_cons] at hn
      have : k ≠ x := fun e => hn.1 (e ▸ lsKeys_mem h')
      simp only [lsFind, this, if_false]
      exact rest hn.2
    | _ => simp only [lsFind]; exact rest hn

def finOwn (q : Wld) (as : List A0) : Own → Own
  | none => none
  | some (x, p) => match lsFind x as 0 with
    | some (j, off) => match p with
      | [] => some (j, [])
      | n :: r => some (j, (n - off * (match q.loc x with | some L => L.sz | none => 0)) :: r)
    | none => some (as.length, x :: p)
def Wld.fin (q : Wld) (as : List A0) (out : List (Bool × DV)) : Wld :=
  { S := q.S, w := q.w, fr := fun _ => True, lab := fun b => finOwn q as (q.lab b),
    loc := fun j => match as[j]? with
      | some (.ls x off len) => match q.loc x with
        | some L => some ⟨L.blk.map fun b => (b.1, b.2 + off * L.sz), (match out[j]? with | some (_, .sl _ ys) => ys.length | _ => 0), L.cap - off, L.sz⟩
        | none => none
      | some .nil => match out[j]? with
        | some (_, .sl τ _) => some ⟨none, 0, 0, τ.sz⟩
        | _ => none
      | _ => none }

theorem resAs_get {nk : Key} : ∀ {out : List (Bool × DV)} {j i : Nat}, (resAs nk j out)[i]? = out[i]?.map fun x => match x with | (_, .sl _ _) => .ls (nk + (j + i)) 0 none | (_, d) => .d d
  | [], _, _ => by simp [resAs]
  | (o, d) :: r, j, 0 => by cases d <;> simp [resAs]
  | (o, d) :: r, j, i + 1 => by
    have := resAs_get (nk := nk) (out := r) (j := j + 1) (i := i)
    rw [show j + 1 + i = j + (i + 1) by omega] at this
    cases d <;> simpa [resAs] using this
theorem resAs_len {nk : Key} : ∀ {out : List (Bool × DV)} {j : Nat}, (resAs nk j out).length = out.length
  | [], _ => rfl
  | (o, d) :: r, j => by cases d <;> simp [resAs, resAs_len]

theorem fin_none {as : List A0} {out : List (Bool × DV)} {v : Value} {d : DV} (h : DR q.S q.lab q.w none v d) : DR (q.fin as out).S (q.fin as out).lab (q.fin as out).w none v d :=
  h.carry (fun o o' => o = .none ∧ o' = .none) (fun o o' c ⟨e1, e2⟩ => by subst e1 e2; exact ⟨rfl, rfl⟩)
    (fun o o' b ⟨e1, e2⟩ hb => by
      subst e1 e2
      refine ⟨?_, rfl⟩
      rcases hb with hb | ⟨k, p, p1, p2⟩
      · exact .inl hb
      · show q.S b ∨ ∃ k p, p ≠ [] ∧ finOwn q as (q.lab b) = some (k, p)
        rw [p2]
        simp only [finOwn]
        cases lsFind k as 0 with
        | none => exact .inr ⟨_, _, by simp, rfl⟩
        | some y => cases p with
          | nil => exact absurd rfl p1
          | cons n r => exact .inr ⟨_, _, by simp, rfl⟩) ⟨rfl, rfl⟩

theorem sub_arr {α : Type} {xs : List α} {off : Nat} {len : Option Nat} {i : Nat} {x : α} (h : (sub xs off len)[i]? = some x) : xs[off + i]? = some x := sub_get h

theorem fin_arr (hG : Good c m g q) {as : List A0} {out : List (Bool × DV)} (hx : Each (ExpC m) as out) (hn : (lsKeys as).Nodup) {j : Nat} {o : Bool} {τ : STy} {ys : List (El τ)} (hj : out[j]? = some (o, .sl τ ys)) :
    (∀ v y, as[j]? = some y → A0R q v y → A0R (q.fin as out) v (.ls j 0 none)) ∧ arrR (q.fin as out) j τ o ys := by
  have hlen := hx.length
  have hjl : j < out.length := (List.getElem?_eq_some_iff.1 hj).1
  obtain ⟨y, hy⟩ : ∃ y, as[j]? = some y := ⟨as[j]'(by omega), List.getElem?_eq_getElem (by omega)⟩
  obtain ⟨y', hy', hex⟩ := hx.get (j := j) hj
  rw [hy] at hy'
  cases hy'
  cases y with
  | nil =>
    obtain ⟨τ', he⟩ := hex
    cases he
    have hloc : (q.fin as out).loc j = some ⟨none, 0, 0, τ.sz⟩ := by simp [Wld.fin, hy, hj]
    refine ⟨fun v y h1 h2 => ?_, ⟨_, hloc, rfl, rfl, by simp, .inl rfl⟩⟩
    rw [hy] at h1
    cases h1
    have h2 : v = .slice none 0 0 := h2
    subst h2
    exact ⟨⟨trivial, rfl⟩, fun L hL => by rw [hloc] at hL; cases hL; exact ⟨none, 0, by simp [lenOf], by simp [lenOf], by simp, by simp [lenOf], .inl rfl⟩⟩
  | ls x off len =>
    obtain ⟨τ', own, xs, hm, he⟩ := hex
    cases he
    have hcr := hG.mem x
    rw [hm] at hcr
    obtain ⟨L, h1, h2, h3, h4, h5⟩ := hcr
    have hloc : (q.fin as out).loc j = some ⟨L.blk.map fun b => (b.1, b.2 + off * L.sz), (sub xs off len).length, L.cap - off, L.sz⟩ := by simp [Wld.fin, hy, h1, hj]
    have hfind := lsFind_get (j := 0) hn hy
    rw [Nat.zero_add] at hfind
    have hl0 : ∀ b, q.lab b = some (x, []) → (q.fin as out).lab b = some (j, []) := fun b hb => by simp [Wld.fin, hb, finOwn, hfind]
    have hl1 : ∀ b n r, q.lab b = some (x, n :: r) → (q.fin as out).lab b = some (j, (n - off * L.sz) :: r) := fun b n r hb => by simp [Wld.fin, hb, finOwn, hfind, h1]
    refine ⟨fun v y e1 e2 => ?_, ?_⟩
    · rw [hy] at e1
      cases e1
      refine ⟨⟨trivial, e2.1.2⟩, fun L' hL' => ?_⟩
      rw [hloc] at hL'
      cases hL'
      obtain ⟨A, cp, rfl, s1, s2, s3, s4⟩ := e2.2 L h1
      rw [← sub_len h2 s3] at s1 ⊢
      refine ⟨A, cp, by simp [lenOf], by simpa [lenOf] using s1, ?_, ⟨Nat.zero_le _, by simp [lenOf]⟩, ?_⟩
      · show 0 + cp ≤ L.cap - off; omega
      · rcases s4 with s4 | ⟨b, o, s5, s6⟩
        · exact .inl s4
        · exact .inr ⟨b, o + off * L.sz, by simp [s5], by simpa using s6⟩
    · refine ⟨_, hloc, rfl, h3, ?_, ?_⟩
      · show (sub xs off len).length ≤ L.cap - off
        have : (sub xs off len).length ≤ xs.length - off := by cases len <;> simp [sub] <;> omega
        omega
      · rcases h5 with h5 | ⟨b, o', arr, k1, k2, k3, k4, k5⟩
        · exact .inl (by show L.cap - off = 0; omega)
        · by_cases h0 : L.cap - off = 0
          · exact .inl h0
          · refine .inr ⟨b, o' + off * L.sz, arr, by simp [k1], hl0 b k2, k3, ?_, fun i e he j' d hd => ?_⟩
            · show o' + off * L.sz + (L.cap - off) * τ.sz ≤ arr.size
              have : off * τ.sz + (L.cap - off) * τ.sz = L.cap * τ.sz := by rw [← Nat.add_mul, Nat.add_sub_cancel' (by omega)]
              rw [h3]; omega
            · obtain ⟨u, hu, hdr⟩ := k5 (off + i) e (sub_arr he) j' d hd
              refine ⟨u, ?_, ?_⟩
              · rw [← hu, h3]; congr 1; rw [Nat.add_mul]; omega
              · cases o with
                | false => exact fin_none hdr
                | true =>
                  refine hdr.carry (fun o o' => ∃ n r, o = some (x, n :: r) ∧ o' = some (j, (n - off * L.sz) :: r)) (fun o o' c ⟨n, r, e1, e2⟩ => by subst e1 e2; exact ⟨n, r ++ [c], rfl, rfl⟩)
                    (fun o o' b ⟨n, r, e1, e2⟩ hb => by subst e1 e2; exact ⟨hl1 b n r hb, rfl⟩) ⟨(off + i) * τ.sz + j', [], rfl, ?_⟩
                  rw [h3, Nat.add_mul, show off * τ.sz + i * τ.sz + j' - off * τ.sz = i * τ.sz + j' by omega]; rfl
  | d v => obtain ⟨e1, e2⟩ := hex; cases e2; cases e1
  | _ => exact hex.elim
end

end Ai
end Go.Proofs.Ytfjdfbdiichhdaa
