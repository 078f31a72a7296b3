/-
  The abstract interpreter, twentieth part: what a loop's head keeps, and the walk through code. Conditions: as for regions.
-/
import Derived.Test.YtfjdfbdiichhdaaK19
namespace Go.Proofs.Ytfjdfbdiichhdaa
open Go
namespace Ai

/- 1. What is kept, as relations. -/
inductive KC (m : Mem) : A0 → A0 → Kept → Prop where
  | pure (a : A0) (h : pureA a = true) : KC m a a ⟨[], []⟩
  | nil (τ : STy) (nk : Key) : KC m .nil (.ls nk 0 none) ⟨[(nk, .arr τ true [])], [(nk, .mt τ)]⟩
  | ls (x off : Nat) (len : Option Nat) (nk : Key) (c : C) (hm : m x = c) (h : (∃ σ o xs, c = .arr σ o xs) ∨ ∃ σ xs, c = .fz σ xs) : KC m (.ls x off len) (.ls nk off len) ⟨[(nk, c)], [(nk, .of x)]⟩
inductive KCs (m : Mem) : List A0 → List A0 → Kept → Prop where
  | nil : KCs m [] [] ⟨[], []⟩
  | cons (a a' q r r' q') (h : KC m a a' q) (hr : KCs m r r' q') : KCs m (a :: r) (a' :: r') ⟨q.ws ++ q'.ws, q.mv ++ q'.mv⟩
inductive KS (m : Mem) : Kept → Prop where
  | p (t v) (h : m t = .av v) (hp : pureV v = true) : KS m ⟨[(t, .av v)], []⟩
  | a (t a a' q) (h : m t = .av (.one a)) (hc : KC m a a' q) : KS m ⟨(t, .av (.one a')) :: q.ws, q.mv⟩
  | bx (t x nk cs cs' q) (h : m t = .av (.one (.bp x 0))) (hx : m x = .box cs) (hc : KCs m cs cs' q) : KS m ⟨(t, .av (.one (.bp nk 0))) :: (nk, .box cs') :: q.ws, (nk, .of x) :: q.mv⟩
inductive KA (m : Mem) : Kept → Prop where
  | nil : KA m ⟨[], []⟩
  | cons (q q') (h : KS m q) (hr : KA m q') : KA m ⟨q.ws ++ q'.ws, q.mv ++ q'.mv⟩

section
variable {m : Mem} {r : List (Bool × DV)}
theorem keepCell_ex {a : A0} {k : Option (STy × Key)} {f : A0 → Kept → Res} (h : keepCell m a k f = some r) : ∃ a' q, KC m a a' q ∧ f a' q = some r := by
  unfold keepCell at h
  cases k with
  | none =>
    simp only at h
    cases hp : pureA a with
    | false => simp [hp] at h
    | true => simp only [hp, cond_true] at h; exact ⟨_, _, .pure a hp, h⟩
  | some y =>
    obtain ⟨τ, nk⟩ := y
    simp only at h
    cases a with
    | nil => exact ⟨_, _, .nil τ nk, h⟩
    | ls x off len =>
      simp only at h
      cases hm : m x with
      | arr σ o xs => simp only [hm] at h; exact ⟨_, _, .ls x off len nk _ hm (.inl ⟨_, _, _, rfl⟩), h⟩
      | fz σ xs => simp only [hm] at h; exact ⟨_, _, .ls x off len nk _ hm (.inr ⟨_, _, rfl⟩), h⟩
      | _ => simp [hm] at h
    | _ => simp at h
theorem keepCells_ex : ∀ {cs : List A0} {ks : List (Option (STy × Key))} {f : List A0 → Kept → Res}, keepCells m cs ks f = some r → ∃ cs' q, KCs m cs cs' q ∧ f cs' q = some r
  | [], [], f, h => ⟨_, _, .nil, h⟩
  | a :: cs, k :: ks, f, h => by
    obtain ⟨a', q, h1, h⟩ := keepCell_ex h
    obtain ⟨cs', q', h2, h⟩ := keepCells_ex h
    exact ⟨_, _, .cons _ _ _ _ _ _ h1 h2, h⟩
  | [], _ :: _, f, h => by simp [keepCells] at h
  | _ :: _, [], f, h => by simp [keepCells] at h
theorem keepSlot_ex {t : Nat} {k : SK} {f : Kept → Res} (h : keepSlot m t k f = some r) : ∃ q, KS m q ∧ f q = some r := by
  unfold keepSlot at h
  cases k with
  | p =>
    simp only at h
    cases hm : m t with
    | av v =>
      simp only [hm] at h
      cases hp : pureV v with
      | false => simp [hp] at h
      | true => simp only [hp, cond_true] at h; exact ⟨_, .p t v hm hp, h⟩
    | _ => simp [hm] at h
  | a τ nk =>
    simp only at h
    cases hm : m t with
    | av v =>
      cases v with
      | one a =>
        simp only [hm] at h
        obtain ⟨a', q, h1, h⟩ := keepCell_ex h
        exact ⟨_, .a t a a' q hm h1, h⟩
      | _ => simp [hm] at h
    | _ => simp [hm] at h
  | bx nk ks =>
    simp only at h
    split at h
    · rename_i x hm
      split at h
      · rename_i cs hx
        obtain ⟨cs', q, h1, h⟩ := keepCells_ex h
        exact ⟨_, .bx t x nk cs cs' q hm hx h1, h⟩
      · cases h
    · cases h
theorem keepAll_ex : ∀ {l : List (Nat × SK)} {f : Kept → Res}, keepAll m l f = some r → ∃ q, KA m q ∧ f q = some r
  | [], f, h => ⟨_, .nil, h⟩
  | (t, k) :: l, f, h => by
    obtain ⟨q, h1, h⟩ := keepSlot_ex h
    obtain ⟨q', h2, h⟩ := keepAll_ex h
    exact ⟨_, .cons _ _ h1 h2, h⟩
end

/- 2. The objects under their new keys. -/
structure Moves (q q' : Wld) (mv : List (Key × From)) : Prop where
  okn : ∀ b, okb q.S q.lab none b → okb q'.S q'.lab none b
  w : q'.w = q.w
  of : ∀ nk x, (nk, From.of x) ∈ mv → q'.fr nk ∧ q'.loc nk = q.loc x ∧ ∀ b p, q.lab b = some (x, p) → q'.lab b = some (nk, p)
  mt : ∀ nk τ, (nk, From.mt τ) ∈ mv → q'.fr nk ∧ q'.loc nk = some ⟨none, 0, 0, τ.sz⟩

section
variable {c : Ctx} {m : Mem} {g : Key → Value} {q q' : Wld} {mv : List (Key × From)}

theorem Moves.none (h : Moves q q' mv) {v : Value} {d : DV} (hd : DR q.S q.lab q.w none v d) : DR q'.S q'.lab q'.w none v d :=
  hd.carry (fun o o' => o = .none ∧ o' = .none) (fun o o' c ⟨h1, h2⟩ => by subst h1 h2; exact ⟨rfl, rfl⟩)
    (fun o o' b ⟨h1, h2⟩ hb => by subst h1 h2; exact ⟨h.okn b hb, by rw [h.w]⟩) ⟨rfl, rfl⟩
theorem Moves.own (h : Moves q q' mv) {x nk : Key} (hx : (nk, From.of x) ∈ mv) {p : List Nat} {v : Value} {d : DV} (hd : DR q.S q.lab q.w (some (x, p)) v d) : DR q'.S q'.lab q'.w (some (nk, p)) v d :=
  hd.carry (fun o o' => ∃ p, o = some (x, p) ∧ o' = some (nk, p)) (fun o o' c ⟨p, h1, h2⟩ => by subst h1 h2; exact ⟨p ++ [c], rfl, rfl⟩)
    (fun o o' b ⟨p, h1, h2⟩ hb => by subst h1 h2; exact ⟨(h.of nk x hx).2.2 b p hb, by rw [h.w]⟩) ⟨p, rfl, rfl⟩
theorem Moves.el (h : Moves q q' mv) {x nk : Key} (hx : (nk, From.of x) ∈ mv) {own : Bool} {i : Nat} {v : Value} {d : DV} (hd : DR q.S q.lab q.w (Ai.elOwn own x i) v d) : DR q'.S q'.lab q'.w (Ai.elOwn own nk i) v d := by
  cases own with
  | true => exact h.own hx hd
  | false => exact h.none hd

theorem Moves.pureA (h : Moves q q' mv) {v : Value} {a : A0} (hp : Ai.pureA a = true) (ha : A0R q v a) : A0R q' v a := by
  cases a with
  | d x => exact h.none ha
  | nil => exact ha
  | fp cs =>
    obtain ⟨b, o, hv, hb, hc⟩ := ha
    refine ⟨b, o, hv, h.okn b hb, fun j d hj => ?_⟩
    obtain ⟨u, hu, hd⟩ := hc j d hj
    exact ⟨u, by rw [h.w]; exact hu, h.none hd⟩
  | uv => exact ha
  | und => trivial
  | _ => simp [Ai.pureA] at hp
theorem Moves.pureCells (h : Moves q q' mv) : ∀ {vs : List Value} {cs : List A0}, cs.all Ai.pureA = true → cellsR q vs cs → cellsR q' vs cs
  | [], [], _, _ => trivial
  | v :: vs, a :: cs, hp, hc => by
    simp only [List.all_cons, Bool.and_eq_true] at hp
    exact ⟨h.pureA hp.1 hc.1, h.pureCells hp.2 hc.2⟩
  | [], _ :: _, _, hc => hc.elim
  | _ :: _, [], _, hc => hc.elim
theorem Moves.pureComps (h : Moves q q' mv) : ∀ {vs : List Value} {cs : List (Bool × List A0)}, (cs.all fun v => v.2.all Ai.pureA) = true → Each (compR q) vs cs → Each (compR q') vs cs
  | [], [], _, _ => trivial
  | v :: vs, (true, a) :: cs, hp, hc => by
    simp only [List.all_cons, Bool.and_eq_true] at hp
    obtain ⟨⟨us, hv, hu⟩, hr⟩ := hc
    exact ⟨⟨us, hv, h.pureCells hp.1 hu⟩, h.pureComps hp.2 hr⟩
  | v :: vs, (false, a) :: cs, hp, hc => by
    simp only [List.all_cons, Bool.and_eq_true] at hp
    exact ⟨h.pureCells (vs := [v]) hp.1 hc.1, h.pureComps hp.2 hc.2⟩
  | [], _ :: _, _, hc => hc.elim
  | _ :: _, [], _, hc => hc.elim
theorem Moves.pureV (h : Moves q q' mv) {v : Value} {a : AV} (hp : Ai.pureV a = true) (ha : AVR q v a) : AVR q' v a := by
  cases a with
  | one a => exact h.pureA hp ha
  | agg cs => obtain ⟨vs, hv, hc⟩ := ha; exact ⟨vs, hv, h.pureCells hp hc⟩
  | tup cs => obtain ⟨vs, hv, hc⟩ := ha; exact ⟨vs, hv, h.pureComps hp hc⟩
  | clo f cs => obtain ⟨vs, hv, hc⟩ := ha; exact ⟨vs, hv, h.pureCells hp hc⟩

theorem Moves.obj (h : Moves q q' mv) {x nk : Key} (hx : (nk, From.of x) ∈ mv) {gk gk' : Value} {o : C} (ho : (∃ σ o' xs, o = .arr σ o' xs) ∨ ∃ σ xs, o = .fz σ xs) (hc : CR q x gk o) : CR q' nk gk' o := by
  obtain ⟨-, hl, hlab⟩ := h.of nk x hx
  rcases ho with ⟨σ, o', xs, rfl⟩ | ⟨σ, xs, rfl⟩
  · obtain ⟨L, h1, hn, hz, hle, hr⟩ := hc
    refine ⟨L, hl.trans h1, hn, hz, hle, ?_⟩
    rcases hr with hr | ⟨b, o, arr, hLb, hb, ⟨e, fz, hw, hfz⟩, hsz, hx'⟩
    · exact .inl hr
    · refine .inr ⟨b, o, arr, hLb, hlab b [] hb, ⟨e, fz, by rw [h.w]; exact hw, hfz⟩, hsz, fun i x hi j d hj => ?_⟩
      obtain ⟨u, hu, hd⟩ := hx' i x hi j d hj
      exact ⟨u, hu, h.el hx hd⟩
  · obtain ⟨L, h1, hn, hz, hle, hr⟩ := hc
    refine ⟨L, hl.trans h1, hn, hz, hle, ?_⟩
    rcases hr with hr | hr | ⟨b, o, hLb, hb, hx'⟩
    · exact .inl hr
    · exact .inr (.inl hr)
    · refine .inr (.inr ⟨b, o, hLb, h.okn b hb, fun i x hi j d hj => ?_⟩)
      obtain ⟨u, hu, hd⟩ := hx' i x hi j d hj
      exact ⟨u, by rw [h.w]; exact hu, h.none hd⟩

theorem KC.ok (h : Moves q q' mv) (hG : Good c m g q) {a a' : A0} {k : Kept} (hk : KC m a a' k) (hs : ∀ e ∈ k.mv, e ∈ mv) {v : Value} (ha : A0R q v a) : A0R q' v a' ∧ ∀ e ∈ k.ws, ∀ gk, CR q' e.1 gk e.2 := by
  cases hk with
  | pure _ hp => exact ⟨h.pureA hp ha, fun e he => by simp at he⟩
  | nil τ nk =>
    obtain ⟨h1, h2⟩ := h.mt nk τ (hs _ (by simp))
    refine ⟨⟨⟨h1, by rw [show v = _ from ha]; rfl⟩, fun L hL => ?_⟩, fun e he gk => ?_⟩
    · rw [h2] at hL; cases hL
      exact ⟨none, 0, ha, by simp [lenOf], by simp, by simp [lenOf], .inl rfl⟩
    · simp at he; subst he
      exact ⟨_, h2, rfl, rfl, by simp, .inl rfl⟩
  | ls x off len nk o hm ho =>
    obtain ⟨h1, h2, h3⟩ := h.of nk x (hs _ (by simp))
    refine ⟨⟨⟨h1, ha.1.2⟩, fun L hL => ha.2 L (h2 ▸ hL)⟩, fun e he gk => ?_⟩
    simp at he; subst he
    have := hG.mem x
    rw [hm] at this
    exact h.obj (hs _ (by simp)) ho this
theorem KCs.ok (h : Moves q q' mv) (hG : Good c m g q) {cs cs' : List A0} {k : Kept} (hk : KCs m cs cs' k) : (∀ e ∈ k.mv, e ∈ mv) → ∀ {vs : List Value}, cellsR q vs cs → cellsR q' vs cs' ∧ ∀ e ∈ k.ws, ∀ gk, CR q' e.1 gk e.2 := by
  induction hk with
  | nil =>
    intro _ vs hc
    cases vs with
    | nil => exact ⟨trivial, fun e he => by simp at he⟩
    | cons _ _ => exact hc.elim
  | cons a a' k r r' k' h1 hr ih =>
    intro hs vs hc
    cases vs with
    | nil => exact hc.elim
    | cons v vs =>
      obtain ⟨p1, p2⟩ := h1.ok h hG (fun e he => hs e (by simp [he])) hc.1
      obtain ⟨p3, p4⟩ := ih (fun e he => hs e (by simp [he])) hc.2
      refine ⟨⟨p1, p3⟩, fun e he gk => ?_⟩
      rcases List.mem_append.1 he with he | he
      · exact p2 e he gk
      · exact p4 e he gk
theorem KCs.len {cs cs' : List A0} {k : Kept} (hk : KCs m cs cs' k) : cs'.length = cs.length := by
  induction hk with
  | nil => rfl
  | cons _ _ _ _ _ _ _ _ ih => simp [ih]

/- A kept slot stays what it was; an object lies under its new key. -/
theorem KS.ok (h : Moves q q' mv) (hG : Good c m g q) {k : Kept} (hk : KS m k) (hs : ∀ e ∈ k.mv, e ∈ mv) : ∀ e ∈ k.ws, CR q' e.1 (g e.1) e.2 := by
  cases hk with
  | p t v hm hp =>
    intro e he
    simp at he; subst he
    have := hG.mem t
    rw [hm] at this
    exact h.pureV hp this
  | a t a a' k hm hc =>
    have := hG.mem t
    rw [hm] at this
    obtain ⟨p1, p2⟩ := hc.ok h hG hs (v := g t) this
    intro e he
    rcases List.mem_cons.1 he with rfl | he
    · exact p1
    · exact p2 e he _
  | bx t x nk cs cs' k hm hx hc =>
    have ht := hG.mem t
    rw [hm] at ht
    have hb := hG.mem x
    rw [hx] at hb
    obtain ⟨b, arr, h1, h2, ⟨e, fz, h3, h4⟩, h5⟩ := hb
    obtain ⟨f1, f2, f3⟩ := h.of nk x (hs _ (by simp))
    obtain ⟨p1, p2⟩ := hc.ok h hG (fun e he => hs e (by simp [he])) h5
    intro e' he
    rcases List.mem_cons.1 he with rfl | he
    · exact ⟨⟨f1, ht.1.2⟩, fun L hL => ht.2 L (f2 ▸ hL)⟩
    · rcases List.mem_cons.1 he with rfl | he
      · exact ⟨b, arr, by rw [f2, h1, hc.len], f3 b [] h2, ⟨e, fz, by rw [h.w]; exact h3, h4⟩, p1⟩
      · exact p2 e' he _
theorem KA.ok (h : Moves q q' mv) (hG : Good c m g q) {k : Kept} (hk : KA m k) : (∀ e ∈ k.mv, e ∈ mv) → ∀ e ∈ k.ws, CR q' e.1 (g e.1) e.2 := by
  induction hk with
  | nil => intro _ e he; simp at he
  | cons k k' h1 hr ih =>
    intro hs e he
    rcases List.mem_append.1 he with he | he
    · exact h1.ok h hG (fun e he => hs e (by simp [he])) e he
    · exact ih (fun e he => hs e (by simp [he])) e he

/- 3. The new names. -/
def newKey (x : Key) : List (Key × From) → Option Key
  | [] => none
  | (nk, .of y) :: r => if y = x then some nk else newKey x r
  | _ :: r => newKey x r
theorem newKey_of {x nk : Key} : ∀ {mv : List (Key × From)}, nodupB (mv.flatMap fun e => e.2.old) = true → (nk, From.of x) ∈ mv → newKey x mv = some nk
  | [], _, h => by simp at h
  | (k, .of y) :: r, hn, h => by
    simp only [List.flatMap_cons, From.old, List.singleton_append] at hn
    obtain ⟨h1, h2⟩ := nodupB_cons hn
    rcases List.mem_cons.1 h with e | e
    · cases e; simp [newKey]
    · have : y ≠ x := fun e' => h1 x (List.mem_flatMap.2 ⟨_, e, List.mem_singleton.2 rfl⟩) e'
      simp only [newKey, this, if_false]
      exact newKey_of h2 e
  | (k, .mt τ) :: r, hn, h => by
    simp only [List.flatMap_cons, From.old, List.nil_append] at hn
    rcases List.mem_cons.1 h with e | e
    · cases e
    · exact newKey_of (mv := r) hn e
theorem lk_at {α : Type} {k : Key} {s : α} : ∀ {l : List (Key × α)}, nodupB (l.map (·.1)) = true → (k, s) ∈ l → lk k l = some s
  | [], _, h => by simp at h
  | (j, t) :: r, hn, h => by
    obtain ⟨h1, h2⟩ := nodupB_cons hn
    rcases List.mem_cons.1 h with e | e
    · cases e; simp [lk]
    · have : j ≠ k := h1 k (List.mem_map.2 ⟨_, e, rfl⟩)
      have hb : Nat.beq j k = false := by cases hb : Nat.beq j k with | false => rfl | true => exact absurd (Nat.eq_of_beq_eq_true hb) this
      simp only [lk, hb, cond_false]
      exact lk_at h2 e
theorem mem_of_lk {α : Type} {k : Key} {s : α} : ∀ {l : List (Key × α)}, lk k l = some s → (k, s) ∈ l
  | [], h => by simp [lk] at h
  | (j, t) :: r, h => by
    simp only [lk] at h
    cases hb : Nat.beq j k with
    | true => simp [hb] at h; have := Nat.eq_of_beq_eq_true hb; subst this; subst h; simp
    | false => simp only [hb, cond_false] at h; exact List.mem_cons_of_mem _ (mem_of_lk h)

def relab (mv : List (Key × From)) : Own → Own
  | none => none
  | some (x, p) => match newKey x mv with
    | some nk => some (nk, p)
    | none => some (0, x :: p)
def Wld.canon (q : Wld) (mv : List (Key × From)) (pn : Key → Prop) : Wld :=
  { S := q.S, lab := fun b => relab mv (q.lab b), fr := fun k => pn k ∨ ∃ s, (k, s) ∈ mv, loc := fun k => match lk k mv with | some (.of x) => q.loc x | some (.mt τ) => some ⟨none, 0, 0, τ.sz⟩ | none => none, w := q.w }

theorem moves_canon {pn : Key → Prop} (h1 : nodupB (mv.flatMap fun e => e.2.old) = true) (h2 : nodupB (mv.map (·.1)) = true) : Moves q (q.canon mv pn) mv where
  okn b hb := by
    rcases hb with hb | ⟨k, p, hp, hl⟩
    · exact .inl hb
    · refine .inr ?_
      show ∃ k' p', p' ≠ [] ∧ relab mv (q.lab b) = some (k', p')
      rw [hl]
      simp only [relab]
      cases newKey k mv with
      | some nk => exact ⟨nk, p, hp, rfl⟩
      | none => exact ⟨0, k :: p, by simp, rfl⟩
  w := rfl
  of nk x h := by
    refine ⟨.inr ⟨_, h⟩, ?_, fun b p hb => ?_⟩
    · show (match lk nk mv with | some (.of x) => q.loc x | some (.mt τ) => some ⟨none, 0, 0, τ.sz⟩ | none => none) = q.loc x
      rw [lk_at h2 h]
    · show relab mv (q.lab b) = some (nk, p)
      rw [hb]; simp [relab, newKey_of h1 h]
  mt nk τ h := by
    refine ⟨.inr ⟨_, h⟩, ?_⟩
    show (match lk nk mv with | some (.of x) => q.loc x | some (.mt τ) => some ⟨none, 0, 0, τ.sz⟩ | none => none) = _
    rw [lk_at h2 h]

theorem upds_mem {k : Key} {o : C} : ∀ {ws : List (Key × C)} {m : Mem}, nodupB (ws.map (·.1)) = true → (k, o) ∈ ws → upds m ws k = o
  | [], _, _, h => by simp at h
  | (j, t) :: r, m, hn, h => by
    obtain ⟨h1, h2⟩ := nodupB_cons hn
    rcases List.mem_cons.1 h with e | e
    · cases e
      simp only [upds]
      rw [upds_not fun e he h => h1 e.1 (List.mem_map.2 ⟨e, he, rfl⟩) h.symm, upd_same]
    · exact upds_mem (ws := r) h2 e

theorem canon_rel {E : Env} {a : Ann} {s : St} {k : St → Res} {r : List (Bool × DV)} {act : Act} {w : World} {fr : Key → Prop} (hnt : E.nt = c.N) (hpn : ∀ k L, c.pl k = some L → k < E.nt + E.pin) (h : canon E a s k = some r) (hR : Rel c s.m fr act w) :
    ∃ s', k s' = some r ∧ c.N ≤ s'.nx ∧ Rel c s'.m (· < s'.nx) act w := by
  obtain ⟨kp, hk, h⟩ := keepAll_ex h
  cases hb : (keptB E.nt a.2 kp && pinB E.nt E.pin a.2 kp.mv) with
  | false => simp [hb] at h
  | true =>
    simp only [hb, cond_true] at h
    simp only [keptB, pinB, Bool.and_eq_true, List.all_eq_true] at hb
    obtain ⟨⟨b1, b2, b3, b4, b5, b6, b7⟩, b8, b9⟩ := hb
    let pn : Key → Prop := fun k => ∃ L, c.pl k = some L
    obtain ⟨g, q, hG, hT, rfl, hfr⟩ := hR
    have hM := moves_canon (q := q) (pn := pn) b1 b3
    have hok := hk.ok hM hG (fun e he => he)
    have hnx : E.nt ≤ a.2 := by simpa using b5
    have hcase : ∀ k, upds (fun _ => cU) kp.ws k = cU ∨ (k, upds (fun _ => cU) kp.ws k) ∈ kp.ws := by
      intro k
      by_cases hx : ∃ e ∈ kp.ws, e.1 = k
      · obtain ⟨⟨k', o⟩, he, rfl⟩ := hx
        rw [upds_mem b2 he]; exact .inr he
      · exact .inl (upds_not fun e he hh => hx ⟨e, he, hh⟩)
    refine ⟨_, h, by show c.N ≤ a.2; omega, g, q.canon kp.mv pn, ?_, hT, rfl, fun k hs => ?_⟩
    · exact {
        eS := hG.eS, os := hG.os, tape := hG.tape, output := hG.output, size := hG.size, old := hG.old, rd := hG.rd
        lab := fun b x hx => by
          have hx : relab kp.mv (q.lab b) = some x := hx
          cases hl : q.lab b with
          | none => rw [hl] at hx; simp [relab] at hx
          | some y => exact hG.lab b y hl
        loc := fun k L hL => by
          have hL : (match lk k kp.mv with | some (.of x) => q.loc x | some (.mt τ) => some ⟨none, 0, 0, τ.sz⟩ | none => none) = some L := hL
          cases hl : lk k kp.mv with
          | none => rw [hl] at hL; cases hL
          | some s =>
            have := mem_of_lk hl
            have h6 := b6 _ this
            have h6 : E.nt ≤ k := by simpa using h6.1
            exact ⟨.inr ⟨s, this⟩, by omega⟩
        low := fun k hk' => by
          show ∃ v, upds (fun _ => cU) kp.ws k = .av v
          rcases hcase k with e | e
          · exact ⟨_, e⟩
          · have := b7 _ e
            simp only [wsB] at this
            cases hc : upds (fun _ => cU) kp.ws k with
            | av v => exact ⟨v, rfl⟩
            | _ => rw [hc] at this; simp at this; omega
        high := fun k hk' v hv => by
          have hv : upds (fun _ => cU) kp.ws k = .av v := hv
          rcases hcase k with e | e
          · rw [hv] at e; cases e; rfl
          · have := b7 _ e
            rw [hv] at this
            simp [wsB] at this
            omega
        mem := fun k => by
          show CR (q.canon kp.mv pn) k (g k) (upds (fun _ => cU) kp.ws k)
          rcases hcase k with e | e
          · rw [e]; trivial
          · exact hok _ e
        ini := fun b hb => ⟨hM.okn b (hG.ini b hb).1, (hG.ini b hb).2⟩
        pin := fun k L hk => by
          refine ⟨.inl ⟨L, hk⟩, ?_⟩
          have h7 := hpn k L hk
          show (match lk k kp.mv with | some (.of x) => q.loc x | some (.mt τ) => some ⟨none, 0, 0, τ.sz⟩ | none => none) = some L ∨ (match lk k kp.mv with | some (.of x) => q.loc x | some (.mt τ) => some ⟨none, 0, 0, τ.sz⟩ | none => none) = none
          cases hl : lk k kp.mv with
          | none => exact .inr rfl
          | some s =>
            have := b9 _ (mem_of_lk hl)
            rcases (Bool.or_eq_true _ _).mp this with h8 | h8
            · have h8 : E.nt + E.pin ≤ k := by simpa using h8
              exact absurd (Nat.lt_of_lt_of_le h7 h8) (Nat.lt_irrefl _)
            · cases s with
              | of x =>
                have h8 : x = k := Nat.eq_of_beq_eq_true h8
                subst h8
                exact (hG.pin _ L hk).2
              | mt τ => simp at h8 }
    · show k < a.2
      rcases hs with ⟨L, hL⟩ | ⟨s, hs⟩
      · have h7 := hpn k L hL
        have h8 : E.nt + E.pin ≤ a.2 := by simpa using b8
        exact Nat.lt_of_lt_of_le h7 h8
      · have h6 := b6 _ hs
        simpa using h6.2
end

theorem canonAt_rel {c : Ctx} {E : Env} {id : Nat} {s : St} {k : St → Res} {r : List (Bool × DV)} {act : Act} {w : World} (hnt : E.nt = c.N) (hpn : ∀ k L, c.pl k = some L → k < E.nt + E.pin) (h : canonAt E id s k = some r) (hN : c.N ≤ s.nx) (hR : Rel c s.m (· < s.nx) act w) :
    ∃ s', k s' = some r ∧ c.N ≤ s'.nx ∧ Rel c s'.m (· < s'.nx) act w := by
  unfold canonAt at h
  cases ha : lk id E.ann with
  | none => simp only [ha] at h; exact ⟨s, h, hN, hR⟩
  | some a => simp only [ha] at h; exact canon_rel hnt hpn h hR

/- 4. Code. -/
def Ex.to : Ex → Exit
  | .exit id => .exit id
  | .ret => .ret

theorem wp_loop_n {P : Program} {Q : Exit → Act → World → Prop} {c : Code} (J : Nat → Act → World → Prop) (round : ∀ n a w, J n a w → c.wp P (Exit.then (fun a' w' => ∃ n', n' < n ∧ J n' a' w') Q) a w) {n : Nat} {a : Act} {w : World} (h₀ : J n a w) :
    (Code.loop c).wp P Q a w := by
  intro b k cs
  have key : ∀ n a w, J n a w → ∃ e a' w', Q e a' w' ∧ Arrives P (lone (b.at a (.code c :: .inLoop c :: k)) cs w) b k cs e a' w' := by
    intro n
    induction n using Nat.strongRecOn with
    | _ n ih =>
      intro a w hI
      obtain ⟨e, a₁, w₁, hq, harr⟩ := round n a w hI b (.inLoop c :: k) cs
      cases e with
      | normal =>
        obtain ⟨n', hlt, hI₁⟩ := hq
        obtain ⟨e₂, a₂, w₂, hq₂, harr₂⟩ := ih n' hlt a₁ w₁ hI₁
        exact ⟨e₂, a₂, w₂, hq₂, .of_steps (Steps.trans harr (.one step_inLoop)) harr₂⟩
      | exit id => exact ⟨_, a₁, w₁, hq, .pass (x := .inLoop c) rfl (fun _ _ => .inl (by simp)) harr⟩
      | goto l => exact ⟨_, a₁, w₁, hq, .pass (x := .inLoop c) rfl (fun _ _ => .inl (by simp)) harr⟩
      | ret => exact ⟨_, a₁, w₁, hq, .pass (x := .inLoop c) rfl (fun _ _ => .inl (by simp)) harr⟩
      | panic ch => exact ⟨_, a₁, w₁, hq, .pass (x := .inLoop c) rfl (fun _ _ => .inl (by simp)) harr⟩
      | outgrown => exact ⟨_, a₁, w₁, hq, .pass (x := .inLoop c) rfl (fun _ _ => .inl (by simp)) harr⟩
  obtain ⟨e, a', w', hq, harr⟩ := key _ a w h₀
  exact ⟨e, a', w', hq, .of_steps (.one step_loop) harr⟩

section
variable {c : Ctx} {E : Env} {r : List (Bool × DV)}

theorem opdA_eval {m : Mem} {fr : Key → Prop} {a : Act} {w : World} (hR : Rel c m fr a w) {x : Operand} {v : Bool} (h : opdA m x = .one (.d (.b v))) : a.eval x = .bool v := by
  obtain ⟨g, q, hG, hT, -, -⟩ := hR
  cases x with
  | tmp t =>
    simp only [opdA] at h
    cases hm : m t with
    | av u =>
      simp only [hm] at h
      subst h
      obtain ⟨-, y, hy, hv⟩ := lit_lt hG hT hm (by simp)
      cases hv
      show a.tmps.getD t undef = _
      rw [Array.getD_eq_getD_getElem?, hy]; rfl
    | _ => simp [hm] at h
  | const u =>
    have := constAV_ok q u
    simp only [opdA] at h
    rw [h] at this
    have this : DR q.S q.lab q.w none u (.b v) := this
    cases this
    rfl
  | _ => simp [opdA] at h

abbrev At (c : Ctx) (s : St) (a : Act) (w : World) : Prop := c.N ≤ s.nx ∧ Rel c s.m (· < s.nx) a w

theorem inBlock_ex {id : Nat} {Q : Exit → Act → World → Prop} {k : St → Res} {x : Ex → St → Res} (hnt : E.nt = c.N) (hpn : ∀ k L, c.pl k = some L → k < E.nt + E.pin)
    (hk : ∀ s' a' w', k s' = some r → At c s' a' w' → Q .normal a' w') (hx : ∀ e s' a' w', x e s' = some r → At c s' a' w' → Q e.to a' w') {e : Ex} {s' : St} {a' : Act} {w' : World}
    (h : (match e with | .exit j => bif Nat.beq j id then canonAt E (2 * id + 1) s' k else x e s' | .ret => x e s') = some r) (ha : At c s' a' w') : Exit.inBlock id Q e.to a' w' := by
  cases e with
  | ret => exact hx .ret _ _ _ h ha
  | exit j =>
    simp only at h
    show (if j = id then Q .normal a' w' else Q (.exit j) a' w')
    cases hb : Nat.beq j id with
    | true =>
      have := Nat.eq_of_beq_eq_true hb
      rw [if_pos this]
      simp only [hb, cond_true] at h
      obtain ⟨s2, h2, h3, h4⟩ := canonAt_rel hnt hpn h ha.1 ha.2
      exact hk _ _ _ h2 ⟨h3, h4⟩
    | false =>
      have := Nat.ne_of_beq_eq_false hb
      rw [if_neg this]
      simp only [hb, cond_false] at h
      exact hx (.exit j) _ _ _ h ha

theorem exec_wp (hm : c.P.follows .mixedOrders = true) (hE : TysOK c.P E) (hF : FnsOK c.P E) (hnt : E.nt = c.N) (hpn : ∀ k L, c.pl k = some L → k < E.nt + E.pin) : ∀ (code : Code) {k : St → Res} {x : Ex → St → Res} {s : St} {a : Act} {w : World} {Q : Exit → Act → World → Prop},
    exec E code k x s = some r → At c s a w → (∀ s' a' w', k s' = some r → At c s' a' w' → Q .normal a' w') → (∀ e s' a' w', x e s' = some r → At c s' a' w' → Q e.to a' w') → code.wp c.P Q a w
  | .skip, k, x, s, a, w, Q, h, ha, hk, hx => wp_skip (hk _ _ _ (by simpa [exec] using h) ha)
  | .seq p q, k, x, s, a, w, Q, h, ha, hk, hx => by
    simp only [exec] at h
    refine wp_seq (exec_wp hm hE hF hnt hpn p h ha (fun s' a' w' h' ha' => exec_wp hm hE hF hnt hpn q h' ha' hk hx) fun e s' a' w' h' ha' => ?_)
    cases e with
    | exit j => exact hx (.exit j) _ _ _ h' ha'
    | ret => exact hx .ret _ _ _ h' ha'
  | .cond y p q, k, x, s, a, w, Q, h, ha, hk, hx => by
    simp only [exec] at h
    split at h
    · rename_i v hv
      refine wp_cond (opdA_eval ha.2 hv) ?_
      cases v with
      | true => exact exec_wp hm hE hF hnt hpn p h ha hk hx
      | false => exact exec_wp hm hE hF hnt hpn q h ha hk hx
    · cases h
  | .region id ops draw, k, x, s, a, w, Q, h, ha, hk, hx => by
    simp only [exec] at h
    exact region_wp hm hE hF hnt ha.1 h ha.2 fun s' a' w' h' hle hr => hk _ _ _ h' ⟨Nat.le_trans ha.1 hle, hr⟩
  | .exit id, k, x, s, a, w, Q, h, ha, hk, hx => wp_exit (hx (.exit id) _ _ _ (by simpa [exec] using h) ha)
  | .ret, k, x, s, a, w, Q, h, ha, hk, hx => wp_ret (hx .ret _ _ _ (by simpa [exec] using h) ha)
  | .block id body, k, x, s, a, w, Q, h, ha, hk, hx => by
    by_cases hb : ∃ y, body = .loop y
    · obtain ⟨y, rfl⟩ := hb
      simp only [exec] at h
      obtain ⟨s', h, h1, h2⟩ := canonAt_rel hnt hpn h ha.1 ha.2
      refine wp_block (wp_loop_n (fun n a w => ∃ s, loopN n (fun again s => exec E y (fun s => canonAt E (2 * id) s again) (fun e s => match e with | .exit j => bif Nat.beq j id then canonAt E (2 * id + 1) s k else x e s | .ret => x e s) s) s = some r ∧ At c s a w)
        (fun n a w hj => ?_) ⟨s', h, h1, h2⟩)
      obtain ⟨s1, hl, h3⟩ := hj
      cases n with
      | zero => simp [loopN] at hl
      | succ n =>
        simp only [loopN] at hl
        refine exec_wp hm hE hF hnt hpn y hl h3 (fun s' a' w' h' ha' => ?_) fun e s' a' w' h' ha' => ?_
        · obtain ⟨s2, h4, h5, h6⟩ := canonAt_rel hnt hpn h' ha'.1 ha'.2
          exact ⟨n, Nat.lt_succ_self n, s2, h4, h5, h6⟩
        · have := inBlock_ex hnt hpn hk hx h' ha'
          cases e with
          | exit j => exact this
          | ret => exact this
    · have h : exec E body (fun s => canonAt E (2 * id + 1) s k) (fun e s => match e with | .exit j => bif Nat.beq j id then canonAt E (2 * id + 1) s k else x e s | .ret => x e s) s = some r := by
        cases body with
        | loop y => exact absurd ⟨y, rfl⟩ hb
        | _ => exact h
      refine wp_block (exec_wp hm hE hF hnt hpn body h ha (fun s' a' w' h' ha' => ?_) fun e s' a' w' h' ha' => inBlock_ex hnt hpn hk hx h' ha')
      obtain ⟨s2, h4, h5, h6⟩ := canonAt_rel hnt hpn h' ha'.1 ha'.2
      exact hk _ _ _ h4 ⟨h5, h6⟩
  | .loop _, _, _, _, _, _, _, h, _, _, _ => by simp [exec] at h
  | .rangeFunc _ _ _ _, _, _, _, _, _, _, h, _, _, _ => by simp [exec] at h
  | .scope _, _, _, _, _, _, _, h, _, _, _ => by simp [exec] at h
  | .label _, _, _, _, _, _, _, h, _, _, _ => by simp [exec] at h
  | .goto _, _, _, _, _, _, _, h, _, _, _ => by simp [exec] at h
  | .refuse _, _, _, _, _, _, _, h, _, _, _ => by simp [exec] at h
end

end Ai
end Go.Proofs.Ytfjdfbdiichhdaa
