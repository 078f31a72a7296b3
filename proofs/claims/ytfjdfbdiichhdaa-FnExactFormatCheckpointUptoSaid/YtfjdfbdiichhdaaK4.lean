/-
  The abstract interpreter, fourth part: what the type table must agree with, and the soundness of the operations that only compute. Conditions: the table agrees with the program (TyOK).
-/
import Derived.Test.YtfjdfbdiichhdaaK3
import Derived.Laws.Append
import Derived.Laws.IdiomCopy
import Derived.Laws.Cells
import Derived.WalkKit
namespace Go.Proofs.Ytfjdfbdiichhdaa
open Go
namespace Ai

/- 1. The table. -/
def zB : Value → A0 → Bool
  | .bool b, .d (.b c) => b == c
  | .int k n, .d (.i k' n') => k == k' && n == n'
  | .string s, .d (.s l) => s.data.toList == l
  | .slice none 0 0, .nil => true
  | _, .und => true
  | _, _ => false
def zsB : List Value → List A0 → Bool
  | [], [] => true
  | v :: vs, a :: as => zB v a && zsB vs as
  | _, _ => false
def fldsB (P : Program) : List Field → List (Nat × Nat) → Bool
  | [], [] => true
  | f :: fs, (o, n) :: r => (match P.info? f.type with | some i => f.offset == o && i.size == n && decide (0 < n) && decide (0 < i.size) | none => false) && fldsB P fs r
  | _, _ => false
def eqkB (P : Program) : List Field → Nat → Bool
  | [], _ => true
  | f :: fs, n => f.offset == n && f.name != "_" && (match P.underlying f.type with | some (.int .i64) => true | _ => false) && eqkB P fs (n + 1)
def tyB (P : Program) (t : Nat) (i : TI) : Bool :=
  match P.info? t, P.underlying t with
  | some inf, some d => (!i.str || (match d with | .string => true | _ => false)) && (!i.bl || (match d with | .bool => true | _ => false)) &&
      (!i.eqk || (match d with | .struct fs => eqkB P fs.toList 0 && fs.size == i.cts.length && !P.eqGuardType P.depth t && !P.stoodInHeld t | _ => false)) && ( inf.size == i.cts.length && decide (0 < inf.size) &&
      (match inf.zero with | some z => zsB z.cells.toList i.zero && z.cells.size == inf.size | none => false) &&
      (match d with
       | .struct fs => i.agg && fldsB P fs.toList i.flds && i.el.isNone && i.ik.isNone
       | .array .. => i.agg && i.flds.isEmpty && i.el.isNone && i.ik.isNone
       | .slice e => !i.agg && i.flds.isEmpty && i.ik.isNone && (match i.el with
          | some (τ, _, ez) => (match P.info? e with
            | some ie => (match τ with | .byte => (match P.underlying e with | some (.int .u8) => true | _ => false) | _ => true) && ie.size == τ.sz && decide (ie.bytes ≤ τ.by) && (match ie.zero with | some z => zsB z.cells.toList ez && z.cells.size == ie.size | none => false)
            | none => false)
          | none => true)
       | .int k => !i.agg && i.flds.isEmpty && i.el.isNone && (match i.ik with | some k' => k == k' | none => true)
       | _ => !i.agg && i.flds.isEmpty && i.el.isNone && i.ik.isNone))
  | _, _ => false

structure ElOK (P : Program) (e : TypeId) (τ : STy) (ez : List A0) : Prop where
  ex : ∃ ie z, P.info? e = some ie ∧ ie.size = τ.sz ∧ ie.bytes ≤ τ.by ∧ ie.zero = some z ∧ z.cells.size = τ.sz ∧ zsB z.cells.toList ez = true
  byte : τ = .byte → P.underlying e = some (.int .u8)
structure TyOK (P : Program) (t : Nat) (i : TI) : Prop where
  inf : ∃ inf d z, P.info? t = some inf ∧ P.underlying t = some d ∧ inf.size = i.cts.length ∧ 0 < inf.size ∧ inf.zero = some z ∧ z.cells.size = inf.size ∧ zsB z.cells.toList i.zero = true ∧
    (match d with | .struct _ | .array _ _ => true | _ => false) = i.agg
  flds : ∀ (f : Nat) x, i.flds[f]? = some x → ∃ fs, P.underlying t = some (.struct fs) ∧ fldsB P fs.toList i.flds = true
  el : ∀ τ ect ez, i.el = some (τ, ect, ez) → ∃ e, P.underlying t = some (.slice e) ∧ ElOK P e τ ez
  ik : ∀ k, i.ik = some k → P.underlying t = some (.int k)
  str : i.str = true → P.underlying t = some .string
  bl : i.bl = true → P.underlying t = some .bool
  eqk : i.eqk = true → ∃ fs, P.underlying t = some (.struct fs) ∧ eqkB P fs.toList 0 = true ∧ fs.size = i.cts.length ∧ P.eqGuardType P.depth t = false ∧ P.stoodInHeld t = false

theorem fldsB_get {P : Program} : ∀ {fs : List Field} {l : List (Nat × Nat)}, fldsB P fs l = true → ∀ {f o n : Nat}, l[f]? = some (o, n) →
    ∃ (fd : Field) (i : TypeInfo), fs[f]? = some fd ∧ fd.offset = o ∧ P.info? fd.type = some i ∧ i.size = n ∧ 0 < n
  | [], [], _, f, o, n, h => by simp at h
  | fd :: fs, (o', n') :: l, hb, f, o, n, h => by
    simp only [fldsB, Bool.and_eq_true] at hb
    cases f with
    | zero =>
      simp at h
      obtain ⟨rfl, rfl⟩ := h
      have h1 := hb.1
      cases hi : P.info? fd.type with
      | none => simp [hi] at h1
      | some i => simp [hi] at h1; exact ⟨fd, i, rfl, h1.1.1.1, hi, h1.1.1.2, h1.1.2⟩
    | succ f => simpa using fldsB_get hb.2 (f := f) (by simpa using h)
  | [], _ :: _, hb, _, _, _, _ => by simp [fldsB] at hb
  | _ :: _, [], hb, _, _, _, _ => by simp [fldsB] at hb

theorem tyB_ok {P : Program} {t : Nat} {i : TI} (h : tyB P t i = true) : TyOK P t i := by
  unfold tyB at h
  cases hi : P.info? t with
  | none => simp [hi] at h
  | some inf =>
  cases hd : P.underlying t with
  | none => simp [hi, hd] at h
  | some d =>
  simp only [hi, hd, Bool.and_eq_true, beq_iff_eq, decide_eq_true_eq] at h
  obtain ⟨⟨⟨hs, hbl⟩, hq⟩, ⟨⟨h1, h2⟩, h3⟩, h4⟩ := h
  cases hz : inf.zero with
  | none => simp [hz] at h3
  | some z =>
  simp only [hz, Bool.and_eq_true, beq_iff_eq] at h3
  refine ⟨⟨inf, d, z, hi, hd, h1, h2, hz, h3.2, h3.1, ?_⟩, ?_, ?_, ?_, ?_, ?_, ?_⟩
  · cases d <;> simp_all
  · intro f x hf
    cases d with
    | struct fs => simp only [Bool.and_eq_true] at h4; exact ⟨fs, hd, h4.1.1.2⟩
    | _ => simp_all
  · intro τ ect ez hel
    cases d with
    | slice e =>
      simp only [hel, Bool.and_eq_true] at h4
      cases hie : P.info? e with
      | none => simp [hie] at h4
      | some ie =>
        simp only [hie, Bool.and_eq_true, beq_iff_eq, decide_eq_true_eq] at h4
        obtain ⟨-, ⟨⟨hby, h5⟩, h6⟩, h7⟩ := h4
        cases hz' : ie.zero with
        | none => simp [hz'] at h7
        | some z' =>
          simp only [hz', Bool.and_eq_true, beq_iff_eq] at h7
          exact ⟨e, hd, ⟨ie, z', hie, h5, h6, hz', h7.2.trans h5, h7.1⟩, fun hb => by subst hb; revert hby; dsimp only; split <;> simp_all⟩
    | _ => simp_all
  · intro k hk
    cases d with
    | int k' => simp [hk] at h4; simp [hd, h4]
    | _ => simp_all
  · intro hst
    cases d <;> simp_all
  · intro hst
    cases d <;> simp_all
  · intro he
    cases d with
    | struct fs => simp [he] at hq; exact ⟨fs, hd, hq.1.1.1, hq.1.1.2, hq.1.2, hq.2⟩
    | _ => simp_all

def tysB (P : Program) (l : List (Nat × TI)) : Bool := l.all fun p => tyB P p.1 p.2
def TysOK (P : Program) (E : Env) : Prop := ∀ t i, lk t E.tys = some i → TyOK P t i
theorem lk_mem {α : Type} {n : Nat} {a : α} : ∀ {l : List (Nat × α)}, lk n l = some a → (n, a) ∈ l
  | [], h => by simp [lk] at h
  | (k, b) :: r, h => by
    simp only [lk] at h
    cases hk : Nat.beq k n with
    | true => simp [hk] at h; subst h; have := Nat.eq_of_beq_eq_true hk; subst this; simp
    | false => simp [hk] at h; exact List.mem_cons_of_mem _ (lk_mem h)
theorem tys_ok {P : Program} {E : Env} (h : tysB P E.tys = true) : TysOK P E := fun t i hl => tyB_ok (by
  have := List.all_eq_true.1 h _ (lk_mem hl)
  exact this)

/- 2. What a small program answers. -/
def RM.ev (m : Mem) : RM → Option (AV × List (Key × C))
  | .ret v ws => some (v, ws)
  | .get a f => (f (m a)).ev m
  | .idx _ o f => o.bind fun e => (f e).ev m
  | .grd b f => bif b then f.ev m else none
  | .fail => none
def RM.rds (m : Mem) : RM → List Key
  | .ret _ _ => []
  | .get a f => a :: (f (m a)).rds m
  | .idx _ o f => match o with | some e => (f e).rds m | none => []
  | .grd _ f => f.rds m
  | .fail => []
theorem RM.run_ev {m : Mem} {r : List (Bool × DV)} : ∀ (rm : RM) {rd : List Key} {k : AV → List (Key × C) → List Key → Res}, rm.run m rd k = some r →
    ∃ v ws, rm.ev m = some (v, ws) ∧ k v ws ((rm.rds m).reverse ++ rd) = some r := by
  intro rm
  induction rm with
  | ret v ws => intro rd k h; exact ⟨v, ws, rfl, h⟩
  | get a f ih =>
    intro rd k h
    obtain ⟨v, ws, h1, h2⟩ := ih (m a) (rd := a :: rd) h
    exact ⟨v, ws, h1, by simpa [RM.rds] using h2⟩
  | idx τ o f ih =>
    intro rd k h
    cases o with
    | none => simp [RM.run] at h
    | some e =>
      obtain ⟨v, ws, h1, h2⟩ := ih e (rd := rd) (by simpa [RM.run] using h)
      exact ⟨v, ws, by simpa [RM.ev] using h1, by simpa [RM.rds] using h2⟩
  | grd b f ih =>
    intro rd k h
    cases b with
    | false => simp [RM.run] at h
    | true =>
      obtain ⟨v, ws, h1, h2⟩ := ih (rd := rd) (by simpa [RM.run] using h)
      exact ⟨v, ws, by simpa [RM.ev] using h1, by simpa [RM.rds] using h2⟩
  | fail => intro rd k h; simp [RM.run] at h
/- It hangs on the keys that it reads, and on no other. -/
theorem RM.ev_same {m m' : Mem} : ∀ (rm : RM), (∀ k ∈ rm.rds m, m' k = m k) → rm.ev m' = rm.ev m := by
  intro rm
  induction rm with
  | ret v ws => intro _; rfl
  | get a f ih =>
    intro h
    have ha : m' a = m a := h a (by simp [RM.rds])
    simp only [RM.ev, ha]
    exact ih _ fun k hk => h k (by simp [RM.rds, hk])
  | idx τ o f ih =>
    intro h
    cases o with
    | none => rfl
    | some e => simpa [RM.ev] using ih e fun k hk => h k (by simpa [RM.rds] using hk)
  | grd b f ih =>
    intro h
    cases b with
    | false => rfl
    | true => simpa [RM.ev] using ih fun k hk => h k (by simpa [RM.rds] using hk)
  | fail => intro _; rfl

/- 3. Operands. -/
theorem constA0_ok (q : Wld) (v : Value) : A0R q v (constA0 v) := by
  unfold constA0
  split
  · exact .b _ _
  · exact .i _ _ _
  · rename_i s; obtain ⟨d⟩ := s; simpa [A0R] using DR.s (S := q.S) (lab := q.lab) (w := q.w) none d.toList
  · rfl
  · trivial
theorem constAV_ok (q : Wld) (v : Value) : AVR q v (constAV v) := by
  unfold constAV
  split
  · rename_i cs
    refine ⟨cs, rfl, ?_⟩
    exact Each.of_get (by simp) fun j a b ha hb => by
      simp at hb ha
      obtain ⟨x, hx, rfl⟩ := hb
      simp [ha] at hx
      subst hx
      exact constA0_ok q _
  · exact constA0_ok q _


section
variable {c : Ctx} {m : Mem} {g : Key → Value} {q : Wld} {a : Act}
theorem opd_ev (hG : Good c m g q) (hT : Tmps c g a) {x : Operand} {f : AV → RM} {r : AV × List (Key × C)} (h : (opd x f).ev m = some r) :
    ∃ v, AVR q (a.eval x) v ∧ (f v).ev m = some r := by
  cases x with
  | tmp t =>
    simp only [opd, RM.ev] at h
    cases hm : m t with
    | av v =>
      refine ⟨v, ?_, by simpa [hm] using h⟩
      by_cases ht : t < c.N
      · have hc := hG.mem t
        rw [hm] at hc
        show AVR q (a.tmps.getD t undef) v
        rw [hT.2.2 t ht]
        exact hc
      · have := hG.high t (Nat.le_of_not_lt ht) v hm
        subst this
        trivial
    | _ => simp [hm, RM.ev] at h
  | const v => exact ⟨constAV v, constAV_ok q v, h⟩
  | func f => exact ⟨.clo f [], ⟨#[], rfl, trivial⟩, h⟩
  | global g => simp [opd, RM.ev] at h
theorem opds_ev (hG : Good c m g q) (hT : Tmps c g a) : ∀ {xs : List Operand} {f : List AV → RM} {r : AV × List (Key × C)}, (opds xs f).ev m = some r →
    ∃ vs, Each (AVR q) (xs.map a.eval) vs ∧ (f vs).ev m = some r
  | [], f, r, h => ⟨[], trivial, h⟩
  | x :: xs, f, r, h => by
    obtain ⟨v, hv, h⟩ := opd_ev hG hT h
    obtain ⟨vs, hvs, h⟩ := opds_ev hG hT h
    exact ⟨v :: vs, ⟨hv, hvs⟩, h⟩
theorem ty_ev {E : Env} {t : Nat} {f : TI → RM} {r : AV × List (Key × C)} (h : (E.ty t f).ev m = some r) : ∃ i, lk t E.tys = some i ∧ (f i).ev m = some r := by
  unfold Env.ty at h
  cases hi : lk t E.tys with
  | none => simp [hi, RM.ev] at h
  | some i => exact ⟨i, rfl, by simpa [hi] using h⟩
theorem oneK_ev {v : AV} {f : A0 → RM} {r : AV × List (Key × C)} (h : (A0.k v f).ev m = some r) : ∃ x, v = .one x ∧ (f x).ev m = some r := by
  cases v with
  | one x => exact ⟨x, rfl, h⟩
  | _ => simp [A0.k, RM.ev] at h
theorem intK_ev {v : AV} {f : IntKind → Int → RM} {r : AV × List (Key × C)} (h : (intK v f).ev m = some r) : ∃ k n, v = .one (.d (.i k n)) ∧ (f k n).ev m = some r := by
  unfold intK at h
  split at h
  · exact ⟨_, _, rfl, h⟩
  · simp [RM.ev] at h
theorem grd_ev {b : Bool} {f : RM} {r : AV × List (Key × C)} (h : (RM.grd b f).ev m = some r) : b = true ∧ f.ev m = some r := by
  cases b with
  | true => exact ⟨rfl, h⟩
  | false => simp [RM.ev] at h
theorem bif_ev {b : Bool} {f : RM} {r : AV × List (Key × C)} (h : (bif b then f else .fail).ev m = some r) : b = true ∧ f.ev m = some r := by
  cases b with
  | true => exact ⟨rfl, h⟩
  | false => simp [RM.ev] at h
theorem bifn_ev {b : Bool} {f : RM} {r : AV × List (Key × C)} (h : (bif b then .fail else f).ev m = some r) : b = false ∧ f.ev m = some r := by
  cases b with
  | false => exact ⟨rfl, h⟩
  | true => simp [RM.ev] at h
end

/- What an operation comes to. -/
def Does (c : Ctx) (m : Mem) (g : Key → Value) (q : Wld) (nk : Key) (v : AV) (ws : List (Key × C)) (R : Result Value) : Prop :=
  ∃ val q', R = .ok val q'.w ∧ Good c (upds m ws) g q' ∧ Step q q' ∧ AVR q' val v ∧ ∀ k, q'.fr k → q.fr k ∨ (nk ≤ k ∧ k < nk + 32)
theorem Does.pure {c : Ctx} {m : Mem} {g : Key → Value} {q : Wld} {nk : Key} {v : AV} {val : Value} {R : Result Value} (hG : Good c m g q) (hr : R = .ok val q.w) (hv : AVR q val v) :
    Does c m g q nk v [] R := ⟨val, q, hr, hG, Step.refl q, hv, fun _ h => .inl h⟩
theorem ret_ev {m : Mem} {v v' : AV} {ws ws' : List (Key × C)} (h : (RM.ret v ws).ev m = some (v', ws')) : v' = v ∧ ws' = ws := by
  simp [RM.ev] at h; exact ⟨h.1.symm, h.2.symm⟩
theorem dv_ev {m : Mem} {d : DV} {v' : AV} {ws' : List (Key × C)} (h : (dv d).ev m = some (v', ws')) : v' = .one (.d d) ∧ ws' = [] := ret_ev h
theorem one_ev {m : Mem} {x : A0} {v' : AV} {ws' : List (Key × C)} (h : (one x).ev m = some (v', ws')) : v' = .one x ∧ ws' = [] := ret_ev h

theorem int_of {q : Wld} {v : Value} {k : IntKind} {n : Int} (h : AVR q v (.one (.d (.i k n)))) : v = .int k n := by
  have h' : DR q.S q.lab q.w none v (.i k n) := h
  cases h'; rfl
theorem bool_of {q : Wld} {v : Value} {b : Bool} (h : AVR q v (.one (.d (.b b)))) : v = .bool b := by
  have h' : DR q.S q.lab q.w none v (.b b) := h
  cases h'; rfl
theorem str_of {q : Wld} {v : Value} {s : Str} (h : AVR q v (.one (.d (.s s)))) : v = .string ⟨s.toArray⟩ := by
  have h' : DR q.S q.lab q.w none v (.s s) := h
  cases h'; rfl
theorem of_int (q : Wld) (k : IntKind) (n : Int) : AVR q (.int k n) (.one (.d (.i k n))) := DR.i _ _ _
theorem of_bool (q : Wld) (b : Bool) : AVR q (.bool b) (.one (.d (.b b))) := DR.b _ _
theorem of_str (q : Wld) (s : Str) : AVR q (.string ⟨s.toArray⟩) (.one (.d (.s s))) := DR.s _ _

theorem nz_ne {b : Int} (h : nz b = true) : b ≠ 0 := by intro e; subst e; cases h
theorem kbeq_eq {a b : IntKind} (h : kbeq a b = true) : a = b := by cases a <;> cases b <;> first | rfl | cases h

theorem binInt_does {c : Ctx} {m : Mem} {g : Key → Value} {q : Wld} {nk : Key} (hG : Good c m g q) {t : TypeId} {op : BinOp} {k : IntKind} {a b : Int} {v : AV} {ws : List (Key × C)}
    (hne : op ≠ .shl ∧ op ≠ .shr) (h : (binInt op k a b).ev m = some (v, ws)) : Does c m g q nk v ws ((binOp op t (.int k a) (.int k b)).run c.P q.w) := by
  cases op <;> simp only [binInt] at h
  case add => obtain ⟨rfl, rfl⟩ := dv_ev h; exact Does.pure hG (by simp [binOp, Op.intArith]) (of_int _ _ _)
  case sub => obtain ⟨rfl, rfl⟩ := dv_ev h; exact Does.pure hG (by simp [binOp, Op.intArith]) (of_int _ _ _)
  case mul => obtain ⟨rfl, rfl⟩ := dv_ev h; exact Does.pure hG (by simp [binOp, Op.intArith]) (of_int _ _ _)
  case quo => obtain ⟨hb, h⟩ := grd_ev h; obtain ⟨rfl, rfl⟩ := dv_ev h; exact Does.pure hG (by simp [binOp, Op.intDiv, nz_ne hb]) (of_int _ _ _)
  case rem => obtain ⟨hb, h⟩ := grd_ev h; obtain ⟨rfl, rfl⟩ := dv_ev h; exact Does.pure hG (by simp [binOp, Op.intDiv, nz_ne hb]) (of_int _ _ _)
  case and => obtain ⟨rfl, rfl⟩ := dv_ev h; exact Does.pure hG (by simp [binOp, Op.intBits, bitI]) (of_int _ _ _)
  case or => obtain ⟨rfl, rfl⟩ := dv_ev h; exact Does.pure hG (by simp [binOp, Op.intBits, bitI]) (of_int _ _ _)
  case xor => obtain ⟨rfl, rfl⟩ := dv_ev h; exact Does.pure hG (by simp [binOp, Op.intBits, bitI]) (of_int _ _ _)
  case eql => obtain ⟨rfl, rfl⟩ := dv_ev h; exact Does.pure hG (by simp [binOp, Op.intCmp]; rfl) (of_bool _ _)
  case neq => obtain ⟨rfl, rfl⟩ := dv_ev h; exact Does.pure hG (by simp [binOp, Op.intCmp]; rfl) (of_bool _ _)
  case lss => obtain ⟨rfl, rfl⟩ := dv_ev h; exact Does.pure hG (by simp [binOp, Op.intCmp]) (of_bool _ _)
  case leq => obtain ⟨rfl, rfl⟩ := dv_ev h; exact Does.pure hG (by simp [binOp, Op.intCmp]) (of_bool _ _)
  case gtr => obtain ⟨rfl, rfl⟩ := dv_ev h; exact Does.pure hG (by simp [binOp, Op.intCmp]) (of_bool _ _)
  case geq => obtain ⟨rfl, rfl⟩ := dv_ev h; exact Does.pure hG (by simp [binOp, Op.intCmp]) (of_bool _ _)
  all_goals simp [RM.ev] at h

end Ai
end Go.Proofs.Ytfjdfbdiichhdaa
