/-
  The abstract interpreter, twenty-eighth part: what the callee gives back. Conditions: none (lemmas).
-/
import Derived.Test.YtfjdfbdiichhdaaK27
namespace Go.Proofs.Ytfjdfbdiichhdaa
open Go
namespace Ai

inductive LX (st : Bool) (m : Mem) : List A0 → List (Option STy) → List (Bool × DV) → Prop where
  | nil : LX st m [] [] []
  | d (v : DV) (cs ks ds) (hs : (st || scalar v) = true) (h : LX st m cs ks ds) : LX st m (.d v :: cs) (none :: ks) ((true, v) :: ds)
  | n (τ : STy) (cs ks ds) (h : LX st m cs ks ds) : LX st m (.nil :: cs) (some τ :: ks) ((true, .sl τ []) :: ds)
  | ls (z off : Nat) (len : Option Nat) (σ : STy) (zs : List (El σ)) (cs ks ds) (hm : m z = .arr σ true zs) (h : LX st m cs ks ds) : LX st m (.ls z off len :: cs) (some σ :: ks) ((true, .sl σ (sub zs off len)) :: ds)
inductive FE (st : Bool) (m : Mem) (N : Nat) : Nat → List LE → List A0 → List (Bool × DV) → List Nat → Prop where
  | nil (j) : FE st m N j [] [] [] []
  | sl (j y : Nat) (τ : STy) (xs ys : List (El τ)) (les as out us) (hm : m (N + j) = .arr τ true ys) (h : FE st m N (j + 1) les as out us) :
      FE st m N j (.sl y τ xs :: les) (.ls (N + j) 0 none :: as) ((true, .sl τ ys) :: out) ((N + j) :: us)
  | mv (j y off : Nat) (len : Option Nat) (τ : STy) (xs : List (El τ)) (les as out us) (h : FE st m N (j + 1) les as out us) : FE st m N j (.mv y off len τ xs :: les) as out us
  | bx (j x : Nat) (cs ks les as out us cs' out') (hl : cs.length = ks.length) (hm : m (N + j) = .box cs') (hx : LX st m cs' ks out') (h : FE st m N (j + (ks.length + 1)) les as out us) :
      FE st m N j (.bx x cs ks :: les) (cs' ++ as) (out' ++ out) ((N + j) :: (lsKeys cs' ++ us))

section
variable {st : Bool} {m : Mem} {r : List (Bool × DV)}
theorem expL_ok : ∀ {cs : List A0} {ks : List (Option STy)} {used : List Key} {f : List (Bool × DV) → List Key → Res}, expL st m cs ks used f = some r → ∃ ds, LX st m cs ks ds ∧ f ds ((lsKeys cs).reverse ++ used) = some r
  | [], [], used, f, h => ⟨[], .nil, by simpa [expL, lsKeys] using h⟩
  | .d v :: cs, none :: ks, used, f, h => by
    simp only [expL] at h
    cases hb : (st || scalar v) with
    | false => simp [hb] at h
    | true =>
      simp only [hb, cond_true] at h
      obtain ⟨ds, h1, h2⟩ := expL_ok h
      exact ⟨_, .d _ _ _ _ hb h1, by simpa [lsKeys] using h2⟩
  | .nil :: cs, some τ :: ks, used, f, h => by
    simp only [expL] at h
    obtain ⟨ds, h1, h2⟩ := expL_ok h
    exact ⟨_, .n _ _ _ _ h1, by simpa [lsKeys] using h2⟩
  | .ls z off len :: cs, some τ :: ks, used, f, h => by
    simp only [expL] at h
    split at h
    · rename_i σ zs hm
      cases hb : styB σ τ with
      | false => simp [hb] at h
      | true =>
        simp only [hb, cond_true] at h
        have e := styB_eq hb
        subst e
        obtain ⟨ds, h1, h2⟩ := expL_ok h
        exact ⟨_, .ls _ _ _ _ _ _ _ _ hm h1, by simpa [lsKeys] using h2⟩
    · cases h
  | [], _ :: _, _, _, h => by simp [expL] at h
  | .d _ :: _, [], _, _, h => by simp [expL] at h
  | .d _ :: _, some _ :: _, _, _, h => by simp [expL] at h
  | .nil :: _, [], _, _, h => by simp [expL] at h
  | .nil :: _, none :: _, _, _, h => by simp [expL] at h
  | .ls _ _ _ :: _, [], _, _, h => by simp [expL] at h
  | .ls _ _ _ :: _, none :: _, _, _, h => by simp [expL] at h
  | .bp _ _ :: _, _, _, _, h => by simp [expL] at h
  | .ep _ _ _ :: _, _, _, _, h => by simp [expL] at h
  | .fp _ :: _, _, _, _, h => by simp [expL] at h
  | .uv :: _, _, _, _, h => by simp [expL] at h
  | .und :: _, _, _, _, h => by simp [expL] at h

theorem lentFin_ok {N : Nat} {m0 : Mem} {L : List (A0 × Ent)} {ds : List DV} {les : List LE} (hL : Lent m0 L ds les) : ∀ {j : Nat} {used : List Key} {f : List (Bool × DV) → List Key → Res}, lentFin st m (N + j) (L.map (·.2)) used f = some r →
    ∃ as out us, FE st m N j les as out us ∧ f out (us.reverse ++ used) = some r := by
  induction hL with
  | nil => intro j used f h; exact ⟨[], [], [], .nil j, by simpa [lentFin] using h⟩
  | sl y σ xs L ds les hm h ih =>
    intro j used f h
    simp only [List.map_cons, lentFin] at h
    split at h
    · rename_i σ' ys hk
      cases hb : styB σ' σ with
      | false => simp [hb] at h
      | true =>
        simp only [hb, cond_true] at h
        have e := styB_eq hb
        subst e
        obtain ⟨as, out, us, h1, h2⟩ := ih (j := j + 1) h
        exact ⟨_, _, _, .sl j y _ xs ys les as out us hk h1, by simpa using h2⟩
    · cases h
  | mv y off len σ xs L ds les hm h ih =>
    intro j used f h
    simp only [List.map_cons, lentFin] at h
    obtain ⟨as, out, us, h1, h2⟩ := ih (j := j + 1) h
    exact ⟨_, _, _, .mv j y off len σ xs les as out us h1, h2⟩
  | bx x cs ks ds' L ds les hm hc h ih =>
    intro j used f h
    simp only [List.map_cons, lentFin] at h
    split at h
    · rename_i cs' hk
      obtain ⟨ds1, h1, h⟩ := expL_ok h
      rw [Nat.add_assoc N j] at h
      obtain ⟨as, out, us, h2, h3⟩ := ih (j := j + (ks.length + 1)) h
      exact ⟨_, _, _, .bx j x cs ks les as out us cs' ds1 (lcells_len hc).1 hk h1 h2, by simpa using h3⟩
    · cases h

theorem lx_len {cs : List A0} {ks : List (Option STy)} {ds : List (Bool × DV)} (h : LX st m cs ks ds) : cs.length = ks.length ∧ ds.length = ks.length ∧ lkeys cs = lsKeys cs := by
  induction h with
  | nil => exact ⟨rfl, rfl, rfl⟩
  | d _ _ _ _ _ _ ih => exact ⟨by simp [ih.1], by simp [ih.2.1], by simp [lkeys, lsKeys, ih.2.2]⟩
  | n _ _ _ _ _ ih => exact ⟨by simp [ih.1], by simp [ih.2.1], by simp [lkeys, lsKeys, ih.2.2]⟩
  | ls _ _ _ _ _ _ _ _ _ _ ih => exact ⟨by simp [ih.1], by simp [ih.2.1], by simp [lkeys, lsKeys, ih.2.2]⟩
theorem exp_keys : ∀ {cs : List A0} {ds : List (Bool × DV)}, Each (ExpC m) cs ds → lkeys cs = lsKeys cs
  | [], [], _ => rfl
  | a :: cs, d :: ds, h => by
    have := exp_keys h.2
    cases a with
    | bp x o => exact h.1.elim
    | _ => simp [lkeys, lsKeys, this]
  | [], _ :: _, h => h.elim
  | _ :: _, [], h => h.elim
end

def rtL (q2 : Wld) (N nk : Nat) : List LE → Nat → Nat → List A0 → RT
  | .sl y _ _ :: r, j, i, _ :: as => (N + j, 0, y) :: rtL q2 N nk r (j + 1) (i + 1) as
  | .mv _ _ _ _ _ :: r, j, i, as => rtL q2 N nk r (j + 1) i as
  | .bx x _ ks :: r, j, i, as => (N + j, 0, x) :: (rtOf q2 nk (as.take ks.length) i ++ rtL q2 N nk r (j + (ks.length + 1)) (i + ks.length) (as.drop ks.length))
  | _, _, _, _ => []
theorem rtL_keys {st : Bool} {m : Mem} {q2 : Wld} {N nk : Nat} {j : Nat} {les : List LE} {as : List A0} {out : List (Bool × DV)} {us : List Nat} (h : FE st m N j les as out us) : ∀ {i : Nat}, (rtL q2 N nk les j i as).map (·.1) = us := by
  induction h with
  | nil => intro i; simp [rtL]
  | sl j y τ xs ys les as out us hm h ih => intro i; simp [rtL, ih]
  | mv j y off len τ xs les as out us h ih => intro i; simpa [rtL] using ih
  | bx j x cs ks les as out us cs' out' hl hm hx h ih =>
    intro i
    obtain ⟨h1, h2, h3⟩ := lx_len hx
    simp only [rtL, List.map_cons, List.map_append, List.take_left' h1, List.drop_left' h1, rtOf_keys, h3, ih]

def LEok (m : Mem) : LE → Prop
  | .sl y τ xs => m y = .arr τ true xs
  | .mv y _ _ τ xs => m y = .arr τ true xs
  | .bx x cs _ => m x = .box cs ∧ lkeys cs = lsKeys cs ∧ ∀ y ∈ lsKeys cs, ∃ σ xs, m y = .arr σ true xs
theorem lcells_keys {m : Mem} {cs : List A0} {ks : List (Option STy)} {ds : List DV} (h : LCells m cs ks ds) : lkeys cs = lsKeys cs ∧ ∀ y ∈ lsKeys cs, ∃ σ xs, m y = .arr σ true xs := by
  induction h with
  | nil => exact ⟨rfl, fun y h => by simp [lsKeys] at h⟩
  | d _ _ _ _ _ ih => exact ⟨by simp [lkeys, lsKeys, ih.1], by simpa [lsKeys] using ih.2⟩
  | ls y off len σ xs cs ks ds hm _ ih =>
    refine ⟨by simp [lkeys, lsKeys, ih.1], fun y' h => ?_⟩
    simp only [lsKeys, List.mem_cons] at h
    rcases h with rfl | h
    · exact ⟨σ, xs, hm⟩
    · exact ih.2 _ h
theorem lent_le {m : Mem} {L : List (A0 × Ent)} {ds : List DV} {les : List LE} (h : Lent m L ds les) : ∀ le ∈ les, LEok m le := by
  induction h with
  | nil => intro le h; simp at h
  | sl y σ xs L ds les hm h ih =>
    intro le hle
    rcases List.mem_cons.1 hle with rfl | hle
    · exact hm
    · exact ih le hle
  | mv y off len σ xs L ds les hm h ih =>
    intro le hle
    rcases List.mem_cons.1 hle with rfl | hle
    · exact hm
    · exact ih le hle
  | bx x cs ks ds' L ds les hm hc h ih =>
    intro le hle
    rcases List.mem_cons.1 hle with rfl | hle
    · exact ⟨hm, lcells_keys hc⟩
    · exact ih le hle

def Wld.back (q q2 : Wld) (T0 T : RT) (nk : Nat) (asF : List A0) (out : List (Bool × DV)) : Wld :=
  { S := q.S, w := q2.w, fr := fun k => q.fr k ∨ (nk ≤ k ∧ k < nk + 32)
    lab := fun b => match q2.lab b with
      | some x => relT T (some nk) (some x)
      | none => match relT T0 none (q.lab b) with
        | none => q.lab b
        | some _ => none
    loc := fun k => if nk ≤ k ∧ k < nk + 32 then (q2.fin asF out).loc (k - nk) else q.loc k }

section
variable {c c2 : Ctx} {m m2 : Mem} {g g2 : Key → Value} {q q2 : Wld} {nk : Nat} {T0 T : RT} {asF : List A0} {out : List (Bool × DV)} {st : Bool}

theorem back_lab {b : Nat} {x : Nat × List Nat} (h : q2.lab b = some x) : (q.back q2 T0 T nk asF out).lab b = relT T (some nk) (some x) := by
  show (match q2.lab b with
      | some x => relT T (some nk) (some x)
      | none => match relT T0 none (q.lab b) with
        | none => q.lab b
        | some _ => none) = _
  rw [h]
/- An object among the results, or in a box. -/
theorem back_ls (hT : (T.map (·.1)).Nodup) {i z off : Nat} {len : Option Nat} {σ : STy} {zs : List (El σ)} (hi : asF[i]? = some (.ls z off len)) (ho : ∃ o, out[i]? = some (o, .sl σ (sub zs off len))) (h32 : i < 32)
    (hm : arrR q2 z σ true zs) (he : (z, off * szAt q2 z, nk + i) ∈ T) :
    (∀ v, A0R q2 v (.ls z off len) → A0R (q.back q2 T0 T nk asF out) v (.ls (nk + i) 0 none)) ∧ arrR (q.back q2 T0 T nk asF out) (nk + i) σ true (sub zs off len) := by
  obtain ⟨L, hL, -⟩ := id hm
  obtain ⟨o, ho⟩ := ho
  have hf := rtFind_mem hT he
  have hs : szAt q2 z = L.sz := by simp [szAt, hL]
  refine arr_reloc (q := q2) (q2 := q.back q2 T0 T nk asF out) rfl hL (.inr ⟨Nat.le_add_right _ _, Nat.add_lt_add_left h32 nk⟩) rfl ?_ (fun b hb => ?_) (fun b n r hb => ?_) hm
  · show (if nk ≤ nk + i ∧ nk + i < nk + 32 then (q2.fin asF out).loc (nk + i - nk) else _) = _
    rw [if_pos ⟨Nat.le_add_right _ _, Nat.add_lt_add_left h32 nk⟩, Nat.add_sub_cancel_left]
    simp [Wld.fin, hi, hL, ho]
  · rw [back_lab hb]; simp only [relT, hf]
  · rw [back_lab hb]; simp only [relT, hf, hs]
theorem back_nil {i : Nat} {σ : STy} (hi : asF[i]? = some .nil) (ho : ∃ o, out[i]? = some (o, .sl σ [])) (h32 : i < 32) :
    (∀ v, A0R q2 v .nil → A0R (q.back q2 T0 T nk asF out) v (.ls (nk + i) 0 none)) ∧ arrR (q.back q2 T0 T nk asF out) (nk + i) σ true [] := by
  obtain ⟨o, ho⟩ := ho
  have hloc : (q.back q2 T0 T nk asF out).loc (nk + i) = some ⟨none, 0, 0, σ.sz⟩ := by
    show (if nk ≤ nk + i ∧ nk + i < nk + 32 then (q2.fin asF out).loc (nk + i - nk) else _) = _
    rw [if_pos ⟨Nat.le_add_right _ _, Nat.add_lt_add_left h32 nk⟩, Nat.add_sub_cancel_left]
    simp [Wld.fin, hi, ho]
  refine ⟨fun v hv => ?_, ⟨_, hloc, rfl, rfl, Nat.le_refl _, .inl rfl⟩⟩
  have hv : v = .slice none 0 0 := hv
  subst hv
  exact ⟨⟨.inr ⟨Nat.le_add_right _ _, Nat.add_lt_add_left h32 nk⟩, rfl⟩, fun L hL => by rw [hloc] at hL; cases hL; exact ⟨none, 0, by simp [lenOf], by simp [lenOf], by simp, by simp [lenOf], .inl rfl⟩⟩
/- An object written in place. -/
theorem back_in (hT : (T.map (·.1)).Nodup) {z y : Nat} {σ : STy} {zs : List (El σ)} {L : Loc} (hy : ¬ (nk ≤ y ∧ y < nk + 32)) (hfr : q.fr y) (hLy : q.loc y = some L) (hLz : q2.loc z = some L)
    (hm : arrR q2 z σ true zs) (he : (z, 0, y) ∈ T) : arrR (q.back q2 T0 T nk asF out) y σ true zs := by
  have hf := rtFind_mem hT he
  obtain ⟨L', hL', hn, -⟩ := id hm
  rw [hLz] at hL'; cases hL'
  refine (arr_reloc (q := q2) (q2 := q.back q2 T0 T nk asF out) (off := 0) (len := none) (t := y) rfl hLz (.inl hfr) (n' := L.n) (by simp [sub, hn]) ?_ (fun b hb => ?_) (fun b n r hb => ?_) hm).2
  · show (if nk ≤ y ∧ y < nk + 32 then _ else q.loc y) = _
    rw [if_neg hy, hLy]
    obtain ⟨bl, n, cp, sz⟩ := L
    cases bl <;> simp
  · rw [back_lab hb]; simp only [relT, hf]
  · rw [back_lab hb]; simp only [relT, hf, Nat.zero_mul]

/- The cells of a box. -/
theorem back_cells (hT : (T.map (·.1)).Nodup) (hG2 : Good c2 m2 g2 q2) (hd : st = true → ∀ v d, DR q2.S q2.lab q2.w none v d → DR (q.back q2 T0 T nk asF out).S (q.back q2 T0 T nk asF out).lab (q.back q2 T0 T nk asF out).w none v d)
    {cs : List A0} {ks : List (Option STy)} {ds : List (Bool × DV)} (h : LX st m2 cs ks ds) : ∀ {i : Nat} {preF postF : List A0} {preO postO : List (Bool × DV)}, asF = preF ++ (cs ++ postF) → out = preO ++ (ds ++ postO) → preF.length = i → preO.length = i → i + cs.length ≤ 32 →
      (∀ e ∈ rtOf q2 nk cs i, e ∈ T) → (∀ e ∈ boxW nk i ks (ds ++ postO), nk ≤ e.1 ∧ (∀ v, e.2 ≠ .av v) ∧ ∀ gk, CR (q.back q2 T0 T nk asF out) e.1 gk e.2) ∧ (boxC nk i ks (ds ++ postO)).length = cs.length ∧
        ∀ vs, cellsR q2 vs cs → cellsR (q.back q2 T0 T nk asF out) vs (boxC nk i ks (ds ++ postO)) := by
  induction h with
  | nil =>
    intro i preF postF preO postO h1 h2 h3 h4 h5 h6
    refine ⟨fun e he => by simp [boxW] at he, by simp [boxC], fun vs hc => ?_⟩
    have : boxC nk i [] ([] ++ postO) = [] := by simp [boxC]
    rw [this]
    cases vs with
    | nil => trivial
    | cons _ _ => exact hc.elim
  | d v cs ks ds hs h ih =>
    intro i preF postF preO postO h1 h2 h3 h4 h5 h6
    obtain ⟨p1, p2, p3⟩ := ih (i := i + 1) (preF := preF ++ [.d v]) (postF := postF) (preO := preO ++ [(true, v)]) (postO := postO) (by simp [h1]) (by simp [h2]) (by simp [h3]) (by simp [h4]) (by simp at h5; omega) (by simpa [rtOf] using h6)
    refine ⟨fun e he => p1 e (by simpa only [List.cons_append, boxW] using he), by simp only [List.cons_append, boxC, List.length_cons, p2], fun vs hc => ?_⟩
    simp only [List.cons_append, boxC]
    cases vs with
    | nil => exact hc.elim
    | cons u vs =>
      refine ⟨?_, p3 vs hc.2⟩
      rcases (Bool.or_eq_true _ _).mp hs with hs | hs
      · exact hd hs _ _ hc.1
      · exact dr_scalar hs hc.1
  | n τ cs ks ds h ih =>
    intro i preF postF preO postO h1 h2 h3 h4 h5 h6
    obtain ⟨p1, p2, p3⟩ := ih (i := i + 1) (preF := preF ++ [.nil]) (postF := postF) (preO := preO ++ [(true, .sl τ [])]) (postO := postO) (by simp [h1]) (by simp [h2]) (by simp [h3]) (by simp [h4]) (by simp at h5; omega) (by simpa [rtOf] using h6)
    have h32 : i < 32 := by simp at h5; omega
    obtain ⟨k1, k2⟩ := back_nil (q := q) (q2 := q2) (T0 := T0) (T := T) (nk := nk) (asF := asF) (out := out) (i := i) (σ := τ) (by rw [h1, ← h3]; simp) ⟨true, by rw [h2, ← h4]; simp⟩ h32
    refine ⟨fun e he => ?_, by simp only [List.cons_append, boxC, List.length_cons, p2], fun vs hc => ?_⟩
    · simp only [List.cons_append, boxW] at he
      rcases List.mem_cons.1 he with rfl | he
      · exact ⟨Nat.le_add_right _ _, fun v => by simp, fun gk => k2⟩
      · exact p1 e he
    · simp only [List.cons_append, boxC]
      cases vs with
      | nil => exact hc.elim
      | cons u vs => exact ⟨k1 u hc.1, p3 vs hc.2⟩
  | ls z off len σ zs cs ks ds hm h ih =>
    intro i preF postF preO postO h1 h2 h3 h4 h5 h6
    obtain ⟨p1, p2, p3⟩ := ih (i := i + 1) (preF := preF ++ [.ls z off len]) (postF := postF) (preO := preO ++ [(true, .sl σ (sub zs off len))]) (postO := postO) (by simp [h1]) (by simp [h2]) (by simp [h3]) (by simp [h4]) (by simp at h5; omega)
      (fun e he => h6 e (by simp only [rtOf]; exact List.mem_cons_of_mem _ he))
    have h32 : i < 32 := by simp at h5; omega
    have hcr := hG2.mem z
    rw [hm] at hcr
    obtain ⟨k1, k2⟩ := back_ls (q := q) (nk := nk) (T0 := T0) (asF := asF) (out := out) (off := off) (len := len) (zs := zs) hT (i := i) (by rw [h1, ← h3]; simp) ⟨true, by rw [h2, ← h4]; simp⟩ h32 hcr (h6 _ (by simp [rtOf]))
    refine ⟨fun e he => ?_, by simp only [List.cons_append, boxC, List.length_cons, p2], fun vs hc => ?_⟩
    · simp only [List.cons_append, boxW] at he
      rcases List.mem_cons.1 he with rfl | he
      · exact ⟨Nat.le_add_right _ _, fun v => by simp, fun gk => k2⟩
      · exact p1 e he
    · simp only [List.cons_append, boxC]
      cases vs with
      | nil => exact hc.elim
      | cons u vs => exact ⟨k1 u hc.1, p3 vs hc.2⟩
end

end Ai
end Go.Proofs.Ytfjdfbdiichhdaa
