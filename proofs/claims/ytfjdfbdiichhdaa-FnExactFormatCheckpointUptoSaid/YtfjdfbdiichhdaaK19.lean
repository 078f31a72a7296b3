/-
  The abstract interpreter, nineteenth part: a region in whatever order its edges allow. Conditions: as for the operations; 'P' mixes the orders.
-/
import Derived.Test.YtfjdfbdiichhdaaK18
namespace Go.Proofs.Ytfjdfbdiichhdaa
open Go
namespace Ai

theorem RM.rds_same {m m' : Mem} : ∀ (rm : RM), (∀ k ∈ rm.rds m, m' k = m k) → rm.rds m' = rm.rds m := by
  intro rm
  induction rm with
  | ret v ws => intro _; rfl
  | get a f ih =>
    intro h
    have ha : m' a = m a := h a (by simp [RM.rds])
    simp only [RM.rds, ha]
    rw [ih _ fun k hk => h k (by simp [RM.rds, hk])]
  | idx τ o f ih =>
    intro h
    cases o with
    | none => rfl
    | some e => exact ih e fun k hk => h k (by simpa [RM.rds] using hk)
  | grd b f ih => intro h; exact ih fun k hk => h k (by simpa [RM.rds] using hk)
  | fail => intro _; rfl

theorem OpStep.same {E : Env} {ops : Array Oper} {nx : Key} {i : Nat} {m m' : Mem} {rd : List Key} {ws : List (Key × C)} (h : OpStep E ops nx i m rd ws) (hk : ∀ k ∈ rd, m' k = m k) : OpStep E ops nx i m' rd ws := by
  cases h with
  | run o v ws rd ho hg hev hrd hd =>
    have hs : ∀ k ∈ (opRM E (nx + 32 * i) o.op).rds m, m' k = m k := fun k h => hk k (hrd k h)
    refine .run o v ws rd ho ?_ (by rw [RM.ev_same _ hs]; exact hev) (by rw [RM.rds_same _ hs]; exact hrd) hd
    rcases hg with hg | ⟨j, want, g, a, b, c, d⟩
    · exact .inl hg
    · exact .inr ⟨j, want, g, a, b, by rw [hk g d]; exact c, d⟩
  | skip o j want g rd ho hg hj hv hrd hd => exact .skip o j want g rd ho hg hj (by rw [hk g hrd]; exact hv) hrd hd

/- 1. The writes of some of the operations, in the text's order. -/
def pt (m0 : Mem) (W : Nat → List (Key × C)) (S : Nat → Bool) : Nat → Mem
  | 0 => m0
  | n + 1 => bif S n then upds (pt m0 W S n) (W n) else pt m0 W S n
theorem pt_congr {m0 : Mem} {W W' : Nat → List (Key × C)} {S S' : Nat → Bool} : ∀ {n : Nat}, (∀ i, i < n → W i = W' i ∧ S i = S' i) → pt m0 W S n = pt m0 W' S' n
  | 0, _ => rfl
  | n + 1, h => by
    simp only [pt]
    rw [pt_congr (n := n) fun i hi => h i (by omega), (h n (by omega)).1, (h n (by omega)).2]

theorem upd_comm {m : Mem} {a b : Key} {x y : C} (h : a ≠ b) : upd (upd m a x) b y = upd (upd m b y) a x := by
  funext k
  by_cases e1 : k = a
  · subst e1
    rw [upd_ne _ _ h, upd_same, upd_same]
  · by_cases e2 : k = b
    · subst e2; rw [upd_same, upd_ne _ _ e1, upd_same]
    · rw [upd_ne _ _ e2, upd_ne _ _ e1, upd_ne _ _ e1, upd_ne _ _ e2]
theorem upds_congr_at {k : Key} : ∀ {ws : List (Key × C)} {m m' : Mem}, m k = m' k → upds m ws k = upds m' ws k
  | [], _, _, h => h
  | (a, c) :: r, m, m', h => by
    simp only [upds]
    refine upds_congr_at ?_
    by_cases e : k = a
    · subst e; rw [upd_same, upd_same]
    · rw [upd_ne _ _ e, upd_ne _ _ e]; exact h
theorem upds_comm : ∀ {m : Mem} {ws vs : List (Key × C)}, (∀ e ∈ ws, ∀ f ∈ vs, e.1 ≠ f.1) → upds (upds m ws) vs = upds (upds m vs) ws
  | m, [], vs, _ => rfl
  | m, (a, x) :: r, vs, h => by
    simp only [upds]
    rw [upds_comm fun e he f hf => h e (by simp [he]) f hf, upds_upd fun e he hh => h (a, x) (by simp) e he hh.symm]

/- 2. What the walk in the text's order yields: each operation's reads and writes. -/
def Hits (rd rd' : List Key) (ws ws' : List (Key × C)) : Prop := ∃ k, ((∃ e ∈ ws, e.1 = k) ∧ k ∈ rd') ∨ ((∃ e ∈ ws, e.1 = k) ∧ ∃ e ∈ ws', e.1 = k) ∨ (k ∈ rd ∧ ∃ e ∈ ws', e.1 = k)

theorem meets_of {a b : List Key} {k : Key} (ha : k ∈ a) (hb : k ∈ b) : meets a b = true := by
  simp only [meets, List.any_eq_true]
  exact ⟨k, ha, k, hb, by simp⟩

structure Runs (E : Env) (ops : Array Oper) (nx : Key) (m0 : Mem) (bf : Array Nat) (R : Nat → List Key) (W : Nat → List (Key × C)) (n : Nat) (m : Mem) : Prop where
  op : ∀ i, i < n → OpStep E ops nx i (pt m0 W (fun _ => true) i) (R i) (W i)
  m : m = pt m0 W (fun _ => true) n
  ind : ∀ i j, i < j → j < n → Hits (R i) (R j) (W i) (W j) → (bf.getD j 0).testBit i = true

theorem indepB_tail {bf : Array Nat} {y : TrE} {l : List TrE} (h : indepB bf (y :: l) = true) : indepB bf l = true := by simp [indepB] at h; exact h.2
theorem text_indep {E : Env} {ops : Array Oper} {nx : Key} {bf : Array Nat} {i n : Nat} {m m' : Mem} {tr tr' : List TrE} (h : Text E ops nx i m tr n m' tr') : indepB bf tr' = true → indepB bf tr = true := by
  induction h with
  | nil => exact id
  | cons _ _ _ _ _ _ _ _ _ _ _ _ _ _ ih => exact fun h => indepB_tail (ih h)

theorem text_runs {E : Env} {ops : Array Oper} {nx : Key} {bf : Array Nat} {m0 : Mem} {i n : Nat} {m m' : Mem} {tr tr' : List TrE} (h : Text E ops nx i m tr n m' tr') (hb : indepB bf tr' = true) :
    ∀ {R : Nat → List Key} {W : Nat → List (Key × C)}, Runs E ops nx m0 bf R W i m → (∀ j, j < i → ∃ x ∈ tr, x.i = j ∧ (∀ k ∈ R j, k ∈ x.rd) ∧ ∀ e ∈ W j, e.1 ∈ x.wr) →
      ∃ R W, Runs E ops nx m0 bf R W n m' := by
  induction h with
  | nil i m tr => intro R W hR _; exact ⟨R, W, hR⟩
  | cons i m tr rd ws y n m' tr' hs hy h1 h2 ht ih =>
    intro R W hR hx
    have hby := text_indep ht hb
    have hpt : ∀ {d}, d ≤ i → pt m0 (fun j => if j = i then ws else W j) (fun _ => true) d = pt m0 W (fun _ => true) d := fun {d} hd => pt_congr fun j hj => ⟨by simp [show j ≠ i by omega], rfl⟩
    refine ih hb (R := fun j => if j = i then rd else R j) (W := fun j => if j = i then ws else W j) ⟨fun j hj => ?_, ?_, fun a b hab hb' hh => ?_⟩ (fun j hj => ?_)
    · rw [hpt (by omega)]
      by_cases e : j = i
      · subst e; simp only [if_true]; rw [← hR.m]; exact hs
      · simp only [e, if_false]; exact hR.op j (by omega)
    · simp only [pt, cond_true, if_true]
      rw [hpt (Nat.le_refl _), ← hR.m]
    · by_cases e : b = i
      · subst e
        have ea : a ≠ b := by omega
        simp only [ea, if_false, if_true] at hh
        obtain ⟨x, hx1, hx2, hx3, hx4⟩ := hx a hab
        have hc : clash x y = true := by
          obtain ⟨k, hk⟩ := hh
          simp only [clash, Bool.or_eq_true]
          rcases hk with ⟨⟨e, he, rfl⟩, hk⟩ | ⟨⟨e, he, rfl⟩, f, hf, hef⟩ | ⟨hk, f, hf, rfl⟩
          · exact .inl (.inl (meets_of (hx4 e he) (h1 _ hk)))
          · exact .inl (.inr (meets_of (hx4 e he) (hef ▸ h2 f hf)))
          · exact .inr (meets_of (hx3 _ hk) (h2 f hf))
        simp only [indepB, Bool.and_eq_true, List.all_eq_true] at hby
        have := hby.1 x hx1
        simpa [hc, hx2, hy] using this
      · have ea : a ≠ i := by omega
        simp only [ea, e, if_false] at hh
        exact hR.ind a b hab (by omega) hh
    · by_cases e : j = i
      · subst e; exact ⟨y, by simp, hy, by simpa using h1, by simpa using h2⟩
      · simp only [e, if_false]
        obtain ⟨x, a, b⟩ := hx j (by omega)
        exact ⟨x, by simp [a], b⟩

/- 3. The edges. -/
def BefOK (ops : List Oper) (acc : Array Nat) : Prop := acc.size ≤ ops.length ∧ ∀ i x, (acc.getD i 0).testBit x = true → ∃ o, ops[i]? = some o ∧ ∃ e ∈ o.after.toList, Region.binds .any e = true ∧ (x = e.on ∨ (acc.getD e.on 0).testBit x = true)

theorem bef_edges (acc : Array Nat) (x : Nat) : ∀ (l : List Edge) (s : Nat), (l.foldl (fun s e => if Region.binds .any e then s ||| 2 ^ e.on ||| acc.getD e.on 0 else s) s).testBit x = true →
    s.testBit x = true ∨ ∃ e ∈ l, Region.binds .any e = true ∧ (x = e.on ∨ (acc.getD e.on 0).testBit x = true)
  | [], s, h => .inl h
  | e :: r, s, h => by
    rw [List.foldl_cons] at h
    rcases bef_edges acc x r _ h with h | ⟨f, hf, h⟩
    · by_cases hb : Region.binds .any e = true
      · rw [if_pos hb] at h
        simp only [Nat.testBit_or, Bool.or_eq_true] at h
        rcases h with (h | h) | h
        · exact .inl h
        · refine .inr ⟨e, by simp, hb, .inl ?_⟩
          rw [Nat.testBit_two_pow] at h
          exact (of_decide_eq_true h).symm
        · exact .inr ⟨e, by simp, hb, .inr h⟩
      · rw [if_neg hb] at h
        exact .inl h
    · exact .inr ⟨f, by simp [hf], h⟩

theorem getD_push {acc : Array Nat} {v i x : Nat} (h : (acc.getD i 0).testBit x = true) : ((acc.push v).getD i 0).testBit x = true := by
  rw [Array.getD_eq_getD_getElem?] at h ⊢
  by_cases hi : i < acc.size
  · rw [Array.getElem?_push_lt hi]
    rwa [Array.getElem?_eq_getElem hi] at h
  · rw [Array.getElem?_eq_none (by omega)] at h
    simp at h
theorem bef_go : ∀ (os pre : List Oper) (acc : Array Nat), acc.size = pre.length → BefOK pre acc → BefOK (pre ++ os) (os.foldl (fun acc o => acc.push (o.after.foldl (fun s e => if Region.binds .any e then s ||| 2 ^ e.on ||| acc.getD e.on 0 else s) 0)) acc)
  | [], pre, acc, _, h => by simpa using h
  | o :: os, pre, acc, hs, h => by
    rw [List.foldl_cons, show pre ++ o :: os = (pre ++ [o]) ++ os by simp]
    refine bef_go os (pre ++ [o]) _ (by simp [hs]) ⟨by simp [hs], fun i x hx => ?_⟩
    by_cases hi : i = acc.size
    · subst hi
      rw [Array.getD_eq_getD_getElem?, Array.getElem?_push_size] at hx
      simp only [Option.getD_some] at hx
      rw [← Array.foldl_toList] at hx
      rcases bef_edges acc x _ _ hx with h0 | ⟨e, he, hb, h0⟩
      · simp at h0
      · refine ⟨o, by rw [hs]; simp, e, he, hb, ?_⟩
        rcases h0 with h0 | h0
        · exact .inl h0
        · exact .inr (getD_push h0)
    · have hlt : i < acc.size := by
        rcases Nat.lt_or_ge i acc.size with h1 | h1
        · exact h1
        · rw [Array.getD_eq_getD_getElem?, Array.getElem?_eq_none (by simp; omega)] at hx
          simp at hx
      have hx' : (acc.getD i 0).testBit x = true := by
        rw [Array.getD_eq_getD_getElem?, Array.getElem?_push_lt hlt] at hx
        rw [Array.getD_eq_getD_getElem?, Array.getElem?_eq_getElem hlt]
        exact hx
      obtain ⟨o', h1, e, h2, h3, h4⟩ := h.2 i x hx'
      refine ⟨o', ?_, e, h2, h3, ?_⟩
      · rw [List.getElem?_append_left (by omega)]; exact h1
      · rcases h4 with h4 | h4
        · exact .inl h4
        · exact .inr (getD_push h4)

theorem before_edge {ops : Array Oper} {i x : Nat} (h : ((Region.before ops).getD i 0).testBit x = true) :
    ∃ o, ops[i]? = some o ∧ ∃ e ∈ o.after.toList, Region.binds .any e = true ∧ (x = e.on ∨ ((Region.before ops).getD e.on 0).testBit x = true) := by
  have := bef_go ops.toList [] #[] rfl ⟨by simp, fun i x h => by simp at h⟩
  simp only [List.nil_append] at this
  unfold Region.before at h ⊢
  rw [← Array.foldl_toList] at h ⊢
  obtain ⟨o, h1, h2⟩ := this.2 i x h
  exact ⟨o, by simpa using h1, h2⟩

theorem back_of {o : Oper} : ∀ {os : List Oper} {i j : Nat}, backB os i = true → os[j]? = some o → ∀ e ∈ o.after.toList, Region.binds .any e = true → e.on < i + j
  | [], _, _, _, h => by simp at h
  | a :: os, i, 0, hb, h => by
    simp at h; subst h
    simp only [backB, Bool.and_eq_true, List.all_eq_true] at hb
    intro e he hbi
    have := hb.1 e he
    rw [hbi] at this
    simpa using this
  | a :: os, i, j + 1, hb, h => by
    simp only [backB, Bool.and_eq_true] at hb
    intro e he hbi
    have := back_of hb.2 (j := j) (by simpa using h) e he hbi
    omega

/- 4. Any order. -/
section
variable {c : Ctx} {E : Env} {ops : Array Oper} {nx : Key} {m0 : Mem} {R : Nat → List Key} {W : Nat → List (Key × C)} {mn : Mem}

theorem pt_reads (hR : Runs E ops nx m0 (Region.before ops) R W ops.size mn) {S : Nat → Bool} {i : Nat} (hi : i < ops.size) (hS : S i = false) (hb : ∀ x, ((Region.before ops).getD i 0).testBit x = true → S x = true)
    (hd : ∀ j, S j = true → ∀ x, ((Region.before ops).getD j 0).testBit x = true → S x = true) {k : Key} (hk : k ∈ R i) : pt m0 W S ops.size k = pt m0 W (fun _ => true) i k := by
  have h1 : ∀ n, n ≤ i → pt m0 W S n k = pt m0 W (fun _ => true) n k := by
    intro n
    induction n with
    | zero => intro _; rfl
    | succ n ih =>
      intro hn
      simp only [pt, cond_true]
      cases hs : S n with
      | true =>
        simp only [cond_true]
        by_cases hw : ∃ e ∈ W n, e.1 = k
        · exact upds_congr_at (ih (by omega))
        · have hw' : ∀ e ∈ W n, e.1 ≠ k := fun e he h => hw ⟨e, he, h⟩
          rw [upds_not hw', upds_not hw']
          exact ih (by omega)
      | false =>
        simp only [cond_false]
        rw [upds_not, ih (by omega)]
        intro e he hek
        have := hb n (hR.ind n i (by omega) hi ⟨k, .inl ⟨⟨e, he, hek⟩, hk⟩⟩)
        rw [this] at hs; cases hs
  have h2 : ∀ d, i + d ≤ ops.size → pt m0 W S (i + d) k = pt m0 W S i k := by
    intro d
    induction d with
    | zero => intro _; rfl
    | succ d ih =>
      intro hd'
      rw [show i + (d + 1) = (i + d) + 1 from rfl]
      simp only [pt]
      cases hs : S (i + d) with
      | false => simp only [cond_false]; exact ih (by omega)
      | true =>
        simp only [cond_true]
        rw [upds_not, ih (by omega)]
        intro e he hek
        have hne : i < i + d := by
          rcases Nat.eq_zero_or_pos d with h0 | h0
          · subst h0; rw [Nat.add_zero, hS] at hs; cases hs
          · omega
        have := hd _ hs i (hR.ind i (i + d) hne (by omega) ⟨k, .inr (.inr ⟨hk, e, he, hek⟩)⟩)
        rw [hS] at this; cases this
  have := h2 (ops.size - i) (by omega)
  rw [show i + (ops.size - i) = ops.size by omega] at this
  rw [this, h1 i (Nat.le_refl _)]

theorem pt_write (hR : Runs E ops nx m0 (Region.before ops) R W ops.size mn) {S : Nat → Bool} {i : Nat} (hi : i < ops.size) (hS : S i = false)
    (hd : ∀ j, S j = true → ∀ x, ((Region.before ops).getD j 0).testBit x = true → S x = true) : pt m0 W (fun j => S j || j == i) ops.size = upds (pt m0 W S ops.size) (W i) := by
  have h1 : pt m0 W (fun j => S j || j == i) i = pt m0 W S i := pt_congr fun j hj => ⟨rfl, by simp [show j ≠ i by omega]⟩
  have h2 : ∀ d, i + 1 + d ≤ ops.size → pt m0 W (fun j => S j || j == i) (i + 1 + d) = upds (pt m0 W S (i + 1 + d)) (W i) := by
    intro d
    induction d with
    | zero => intro _; simp [pt, hS, h1]
    | succ d ih =>
      intro hd'
      rw [show i + 1 + (d + 1) = (i + 1 + d) + 1 from rfl]
      simp only [pt]
      rw [show ((i + 1 + d == i) : Bool) = false by simp; omega, Bool.or_false]
      cases hs : S (i + 1 + d) with
      | false => simp only [cond_false]; exact ih (by omega)
      | true =>
        simp only [cond_true]
        rw [ih (by omega)]
        refine upds_comm fun e he f hf hef => ?_
        have := hd _ hs i (hR.ind i (i + 1 + d) (by omega) (by omega) ⟨f.1, .inr (.inl ⟨⟨e, he, hef⟩, f, hf, rfl⟩)⟩)
        rw [hS] at this; cases this
  have := h2 (ops.size - (i + 1)) (by omega)
  rwa [show i + 1 + (ops.size - (i + 1)) = ops.size by omega] at this

theorem any_sound (hE : TysOK c.P E) (hF : FnsOK c.P E) (hnt : E.nt = c.N) (hN : c.N ≤ nx) (hback : backB ops.toList 0 = true) {Q : Exit → Act → World → Prop} (hR : Runs E ops nx m0 (Region.before ops) R W ops.size mn)
    (hQ : ∀ a' w', Rel c mn (FrS nx (· < ops.size)) a' w' → Q .normal a' w') : ∀ (fuel : Nat) (listed : Array Bool) (a : Act) (w : World), listed.size = ops.size → (listed.toList.countP (· == false)) ≤ fuel →
    (∀ j, listed.getD j false = true → ∀ x, ((Region.before ops).getD j 0).testBit x = true → listed.getD x false = true) →
    Rel c (pt m0 W (fun j => listed.getD j false) ops.size) (FrS nx (fun j => listed.getD j false = true)) a w → wpAny c.P .any ops Q fuel listed a w := by
  have nil : ∀ (listed : Array Bool) (a : Act) (w : World), listed.size = ops.size → Region.ready .any ops listed = [] → Rel c (pt m0 W (fun j => listed.getD j false) ops.size) (FrS nx (fun j => listed.getD j false = true)) a w → Q .normal a w := by
    intro listed a w hsz hr hrel
    have all : ∀ j, j < ops.size → listed.getD j false = true := by
      intro j
      induction j using Nat.strongRecOn with
      | ind j ih =>
        intro hj
        cases hl : listed.getD j false with
        | true => rfl
        | false =>
          exfalso
          have : j ∈ Region.ready .any ops listed := by
            refine List.mem_filter.2 ⟨List.mem_range.2 hj, ?_⟩
            have hl' : listed.getD j true = false := by
              rw [Array.getD_eq_getD_getElem?, Array.getElem?_eq_getElem (by omega)] at hl ⊢
              exact hl
            rw [hl', Array.getElem?_eq_getElem hj]
            simp only [Bool.not_false, Bool.true_and, Option.map_some, Option.getD_some, Array.all_eq_true']
            intro e he
            cases hbi : Region.binds .any e with
            | false => simp
            | true =>
              have hlt := back_of hback (j := j) (o := ops[j]) (by simp [hj]) e (by simpa using he) hbi
              simp only [Nat.zero_add] at hlt
              rw [ih e.on hlt (by omega)]
              simp
          rw [hr] at this; cases this
    refine hQ a w ?_
    have e1 : pt m0 W (fun j => listed.getD j false) ops.size = mn := by
      rw [hR.m]; exact pt_congr fun j hj => ⟨rfl, all j hj⟩
    rw [e1] at hrel
    obtain ⟨g, q, h1, h2, h3, h4⟩ := hrel
    refine ⟨g, q, h1, h2, h3, fun k hk => ?_⟩
    rcases h4 k hk with h | ⟨j, hj, h5⟩
    · exact .inl h
    · refine .inr ⟨j, ?_, h5⟩
      rcases Nat.lt_or_ge j ops.size with h | h
      · exact h
      · rw [Array.getD_eq_getD_getElem?, Array.getElem?_eq_none (by omega)] at hj
        cases hj
  intro fuel
  induction fuel with
  | zero =>
    intro listed a w hsz hc hd hrel
    have hr : Region.ready .any ops listed = [] := by
      rw [List.eq_nil_iff_forall_not_mem]
      intro i hi
      obtain ⟨h1, h2⟩ := List.mem_filter.1 hi
      have hil : i < listed.size := by rw [hsz]; exact List.mem_range.1 h1
      simp only [Bool.and_eq_true] at h2
      have hf : listed[i] = false := by
        have := h2.1
        rw [Array.getD_eq_getD_getElem?, Array.getElem?_eq_getElem hil] at this
        simpa using this
      have : 0 < listed.toList.countP (· == false) := List.countP_pos_iff.2 ⟨listed[i], by simp, by simp [hf]⟩
      omega
    exact ⟨hr, nil listed a w hsz hr hrel⟩
  | succ fuel ih =>
    intro listed a w hsz hc hd hrel
    refine ⟨fun hr => nil listed a w hsz hr hrel, fun i hi => ?_⟩
    obtain ⟨h1, h2⟩ := List.mem_filter.1 hi
    have hio : i < ops.size := List.mem_range.1 h1
    have hil : i < listed.size := by omega
    simp only [Bool.and_eq_true] at h2
    have hf : listed[i] = false := by
      have := h2.1
      rw [Array.getD_eq_getD_getElem?, Array.getElem?_eq_getElem hil] at this
      simpa using this
    have hSi : listed.getD i false = false := by
      rw [Array.getD_eq_getD_getElem?, Array.getElem?_eq_getElem hil]; exact hf
    have hbi : ∀ x, ((Region.before ops).getD i 0).testBit x = true → listed.getD x false = true := by
      intro x hx
      obtain ⟨o, ho, e, he, hb, hx⟩ := before_edge hx
      have h3 := h2.2
      rw [ho] at h3
      simp only [Option.map_some, Option.getD_some, Array.all_eq_true'] at h3
      have h4 := h3 e (by simpa using he)
      simp only [hb, Bool.not_true, Bool.false_or] at h4
      rcases hx with rfl | hx
      · exact h4
      · exact hd _ h4 x hx
    have hget : ∀ j, (listed.setIfInBounds i true).getD j false = (listed.getD j false || j == i) := by
      intro j
      rw [Array.getD_eq_getD_getElem?, Array.getD_eq_getD_getElem?, Array.getElem?_setIfInBounds]
      by_cases e : i = j
      · subst e; simp [hil]
      · simp [e, Ne.symm e]
    have hstep := (hR.op i hio).same (m' := pt m0 W (fun j => listed.getD j false) ops.size) fun k hk => pt_reads hR hio hSi hbi hd hk
    refine step_wpOp hE hF hnt hN (S := fun j => listed.getD j false = true) (by simp [hSi]) hstep hrel fun a' w' hr' => ih _ a' w' (by simp [hsz]) ?_ ?_ ?_
    · have : (listed.setIfInBounds i true).toList.countP (· == false) + 1 = listed.toList.countP (· == false) := by
        rw [Array.toList_setIfInBounds, List.countP_set (by simpa using hil)]
        have hfl : listed.toList[i]'(by simpa using hil) = false := by simpa using hf
        rw [hfl]
        have hp : 0 < listed.toList.countP (· == false) := List.countP_pos_iff.2 ⟨listed[i], by simp, by simp [hf]⟩
        simp only [beq_self_eq_true, if_true, show ((true == false) : Bool) = false from rfl, Bool.false_eq_true, if_false]
        omega
      omega
    · intro j hj x hx
      rw [hget] at hj ⊢
      rw [Bool.or_eq_true] at hj ⊢
      rcases hj with hj | hj
      · exact .inl (hd j hj x hx)
      · have : j = i := by simpa using hj
        subst this
        exact .inl (hbi x hx)
    · have e1 : (fun j => (listed.setIfInBounds i true).getD j false) = fun j => (listed.getD j false || j == i) := funext hget
      rw [e1, pt_write hR hio hSi hd]
      obtain ⟨g, q, p1, p2, p3, p4⟩ := hr'
      refine ⟨g, q, p1, p2, p3, fun k hk => ?_⟩
      rcases p4 k hk with h | ⟨j, hj, h5⟩
      · exact .inl h
      · refine .inr ⟨j, ?_, h5⟩
        simp only [hget, Bool.or_eq_true]
        rcases hj with hj | hj
        · exact .inl hj
        · exact .inr (by simp [hj])
end

theorem rel_drawn {c : Ctx} {m : Mem} {fr : Key → Prop} {a : Act} {w : World} (n : Nat) (h : Rel c m fr a w) : Rel c m fr a { w with drawn := n } := by
  obtain ⟨g, q, hG, hT, rfl, hfr⟩ := h
  have hs : Step q { q with w := { q.w with drawn := n } } := ⟨rfl, fun _ h => h, fun _ _ => .inl rfl, fun _ h => ⟨h, rfl⟩⟩
  exact ⟨g, { q with w := { q.w with drawn := n } }, { hG with mem := fun k => (hG.mem k).step hs fun _ => ⟨rfl, fun _ _ h => ⟨h, rfl⟩⟩ }, hT, rfl, hfr⟩

theorem region_wp {c : Ctx} {E : Env} {ops : Array Oper} (hm : c.P.follows .mixedOrders = true) (hE : TysOK c.P E) (hF : FnsOK c.P E) (hnt : E.nt = c.N) {s : St} (hN : c.N ≤ s.nx) {k : St → Res} {draw : Bool} {id : Nat} {r : List (Bool × DV)}
    (h : regionR E ops draw s k = some r) {a : Act} {w : World} (hR : Rel c s.m (· < s.nx) a w) {Q : Exit → Act → World → Prop}
    (hQ : ∀ s' a' w', k s' = some r → s.nx ≤ s'.nx → Rel c s'.m (· < s'.nx) a' w' → Q .normal a' w') : (Code.region id ops draw).wp c.P Q a w := by
  unfold regionR at h
  obtain ⟨m', tr', ht, hk⟩ := opsR_text ops.toList 0 s.m [] (fun t o h => by simpa using h) h
  have hfin : ∀ a' w', Rel c m' (FrS s.nx (· < ops.size)) a' w' → (k ⟨m', s.nx + 32 * ops.size⟩ = some r) → Q .normal a' w' := by
    intro a' w' hr hk
    refine hQ _ a' w' hk (by simp) ?_
    obtain ⟨g, q, p1, p2, p3, p4⟩ := hr
    refine ⟨g, q, p1, p2, p3, fun x hx => ?_⟩
    show x < s.nx + 32 * ops.size
    rcases p4 x hx with h | ⟨j, hj, h5, h6⟩
    · exact Nat.lt_of_lt_of_le h (Nat.le_add_right _ _)
    · exact Nat.lt_of_lt_of_le h6 (by omega)
  have hR0 : ∀ {w}, Rel c s.m (· < s.nx) a w → ∀ {S : Nat → Prop}, Rel c s.m (FrS s.nx S) a w := fun hR' => by
    intro S
    obtain ⟨g, q, p1, p2, p3, p4⟩ := hR'
    exact ⟨g, q, p1, p2, p3, fun x hx => .inl (p4 x hx)⟩
  cases draw with
  | false =>
    simp only [Bool.not_false, Bool.true_or, cond_true] at hk
    refine wp_region ?_
    have := text_wpOps hE hF hnt hN (Q := Q) ht (hR0 hR) (fun a' w' hr => hfin a' w' (by simpa using hr) hk)
    simpa [List.range_eq_range'] using this
  | true =>
    simp only [Bool.not_true, Bool.false_or] at hk
    cases hb : (backB ops.toList 0 && indepB (Region.before ops) tr') with
    | false => simp [hb] at hk
    | true =>
      simp only [hb, cond_true] at hk
      obtain ⟨hb1, hb2⟩ := (Bool.and_eq_true _ _).mp hb
      obtain ⟨R, W, hRW⟩ := text_runs (bf := Region.before ops) (m0 := s.m) ht hb2 (R := fun _ => []) (W := fun _ => []) ⟨fun i hi => by omega, rfl, fun i j _ hj => by omega⟩ (fun j hj => by omega)
      have hRW : Runs E ops s.nx s.m (Region.before ops) R W ops.size m' := by simpa using hRW
      refine wp_region_any hm (any_sound hE hF hnt hN hb1 hRW (fun a' w' hr => hfin a' w' hr hk) _ _ _ _ (by simp) ?_ ?_ ?_)
      · exact Nat.le_trans List.countP_le_length (by simp)
      · intro j hj
        rw [Array.getD_eq_getD_getElem?, Array.getElem?_replicate] at hj
        split at hj <;> cases hj
      · have e : pt s.m W (fun j => (Array.replicate ops.size false).getD j false) ops.size = s.m := by
          have : ∀ n, pt s.m W (fun j => (Array.replicate ops.size false).getD j false) n = s.m := by
            intro n
            induction n with
            | zero => rfl
            | succ n ih =>
              have hf : (Array.replicate ops.size false).getD n false = false := by
                rw [Array.getD_eq_getD_getElem?, Array.getElem?_replicate]
                split <;> rfl
              simp only [pt, hf, cond_false]
              exact ih
          exact this _
        rw [e]
        exact hR0 (rel_drawn _ hR)

end Ai
end Go.Proofs.Ytfjdfbdiichhdaa
