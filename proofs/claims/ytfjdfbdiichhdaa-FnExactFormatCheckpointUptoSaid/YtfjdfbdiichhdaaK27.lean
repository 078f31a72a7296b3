/-
  The abstract interpreter, twenty-seventh part: what a call lends, and the callee's first memory. Conditions: none (lemmas).
-/
import Derived.Test.YtfjdfbdiichhdaaK26
namespace Go.Proofs.Ytfjdfbdiichhdaa
open Go
namespace Ai

inductive LCells (m : Mem) : List A0 → List (Option STy) → List DV → Prop where
  | nil : LCells m [] [] []
  | d (v : DV) (cs ks ds) (h : LCells m cs ks ds) : LCells m (.d v :: cs) (none :: ks) (v :: ds)
  | ls (y off : Nat) (len : Option Nat) (σ : STy) (xs : List (El σ)) (cs ks ds) (hm : m y = .arr σ true xs) (h : LCells m cs ks ds) : LCells m (.ls y off len :: cs) (some σ :: ks) (.sl σ (sub xs off len) :: ds)
inductive Lent (m : Mem) : List (A0 × Ent) → List DV → List LE → Prop where
  | nil : Lent m [] [] []
  | sl (y : Nat) (σ : STy) (xs : List (El σ)) (L ds les) (hm : m y = .arr σ true xs) (h : Lent m L ds les) : Lent m ((.ls y 0 none, .sl σ) :: L) (.sl σ xs :: ds) (.sl y σ xs :: les)
  | mv (y off : Nat) (len : Option Nat) (σ : STy) (xs : List (El σ)) (L ds les) (hm : m y = .arr σ true xs) (h : Lent m L ds les) : Lent m ((.ls y off len, .mv σ) :: L) (.sl σ (sub xs off len) :: ds) (.mv y off len σ xs :: les)
  | bx (x : Nat) (cs ks ds' L ds les) (hm : m x = .box cs) (hc : LCells m cs ks ds') (h : Lent m L ds les) : Lent m ((.bp x 0, .bx ks) :: L) (ds' ++ ds) (.bx x cs ks :: les)

section
variable {m : Mem} {r : AV × List (Key × C)}
theorem lendCells_ev : ∀ {cs : List A0} {ks : List (Option STy)} {f : List DV → RM}, (lendCells cs ks f).ev m = some r → ∃ ds, LCells m cs ks ds ∧ (f ds).ev m = some r
  | [], [], f, h => ⟨[], .nil, by simpa [lendCells] using h⟩
  | .d v :: cs, none :: ks, f, h => by
    simp only [lendCells] at h
    obtain ⟨ds, h1, h2⟩ := lendCells_ev h
    exact ⟨_, .d _ _ _ _ h1, h2⟩
  | .ls y off len :: cs, some τ :: ks, f, h => by
    simp only [lendCells, RM.ev] at h
    split at h
    · rename_i σ xs hm
      obtain ⟨he, h'⟩ := bif_ev h
      clear h
      have e := styB_eq he
      subst e
      obtain ⟨ds, h1, h2⟩ := lendCells_ev h'
      exact ⟨_, .ls _ _ _ _ _ _ _ _ hm h1, h2⟩
    · cases h
  | [], _ :: _, f, h => by simp [lendCells, RM.ev] at h
  | .d _ :: _, some _ :: _, f, h => by simp [lendCells, RM.ev] at h
  | .d _ :: _, [], f, h => by simp [lendCells, RM.ev] at h
  | .ls _ _ _ :: _, [], f, h => by simp [lendCells, RM.ev] at h
  | .ls _ _ _ :: _, none :: _, f, h => by simp [lendCells, RM.ev] at h
  | .nil :: _, _, f, h => by simp [lendCells, RM.ev] at h
  | .bp _ _ :: _, _, f, h => by simp [lendCells, RM.ev] at h
  | .ep _ _ _ :: _, _, f, h => by simp [lendCells, RM.ev] at h
  | .fp _ :: _, _, f, h => by simp [lendCells, RM.ev] at h
  | .uv :: _, _, f, h => by simp [lendCells, RM.ev] at h
  | .und :: _, _, f, h => by simp [lendCells, RM.ev] at h

theorem lendEnts_ev : ∀ {L : List (A0 × Ent)} {f : List DV → List LE → RM}, (lendEnts L f).ev m = some r → ∃ ds les, Lent m L ds les ∧ (f ds les).ev m = some r
  | [], f, h => ⟨[], [], .nil, by simpa [lendEnts] using h⟩
  | (a, .sl τ) :: L, f, h => by
    cases a with
    | ls y off len =>
      simp only [lendEnts] at h
      obtain ⟨h1, h'⟩ := bif_ev h
      clear h
      obtain ⟨h1, h2⟩ := (Bool.and_eq_true _ _).mp h1
      have h3 := Nat.eq_of_beq_eq_true h1
      clear h1
      subst h3
      cases len with
      | some n => simp at h2
      | none =>
        simp only [RM.ev] at h'
        split at h'
        · rename_i σ xs hm
          obtain ⟨he, h⟩ := bif_ev h'
          clear h'
          have e := styB_eq he
          subst e
          obtain ⟨ds, les, h3, h4⟩ := lendEnts_ev h
          exact ⟨_, _, .sl _ _ _ _ _ _ hm h3, h4⟩
        · cases h'
    | _ => simp [lendEnts, RM.ev] at h
  | (a, .mv τ) :: L, f, h => by
    cases a with
    | ls y off len =>
      simp only [lendEnts, RM.ev] at h
      split at h
      · rename_i σ xs hm
        obtain ⟨he, h'⟩ := bif_ev h
        clear h
        have e := styB_eq he
        subst e
        obtain ⟨ds, les, h3, h4⟩ := lendEnts_ev h'
        exact ⟨_, _, .mv _ _ _ _ _ _ _ _ hm h3, h4⟩
      · cases h
    | _ => simp [lendEnts, RM.ev] at h
  | (a, .bx ks) :: L, f, h => by
    cases a with
    | bp x off =>
      cases off with
      | zero =>
        simp only [lendEnts, RM.ev] at h
        split at h
        · rename_i cs hm
          obtain ⟨ds', h1, h⟩ := lendCells_ev h
          obtain ⟨ds, les, h3, h4⟩ := lendEnts_ev h
          exact ⟨_, _, .bx _ _ _ _ _ _ _ hm h1 h3, h4⟩
        · cases h
      | succ n => simp [lendEnts, RM.ev] at h
    | _ => simp [lendEnts, RM.ev] at h
end

/- Lookups. -/
theorem upds_or {k : Key} : ∀ {ws : List (Key × C)} {m : Mem}, (upds m ws k = m k ∧ ∀ e ∈ ws, e.1 ≠ k) ∨ ∃ e ∈ ws, e.1 = k ∧ upds m ws k = e.2
  | [], m => .inl ⟨rfl, fun e he => by simp at he⟩
  | (j, x) :: ws, m => by
    rcases upds_or (k := k) (ws := ws) (m := upd m j x) with ⟨h1, h2⟩ | ⟨e, he, h1, h2⟩
    · by_cases hj : j = k
      · subst hj
        exact .inr ⟨(j, x), by simp, rfl, by show upds (upd m j x) ws j = x; rw [h1, upd_same]⟩
      · refine .inl ⟨by show upds (upd m j x) ws k = m k; rw [h1]; exact upd_ne m x (Ne.symm hj), fun e he => ?_⟩
        rcases List.mem_cons.1 he with rfl | he
        · exact hj
        · exact h2 e he
    · exact .inr ⟨e, List.mem_cons_of_mem _ he, h1, h2⟩
theorem setP_get : ∀ {vs : List AV} {j : Nat} {m : Mem} {k : Nat}, (k < j ∨ j + vs.length ≤ k) → setP vs j m k = m k
  | [], _, _, _, _ => rfl
  | v :: vs, j, m, k, h => by
    have h' : k < j + 1 ∨ j + 1 + vs.length ≤ k := by simp only [List.length_cons] at h; omega
    show setP vs (j + 1) (upd m j (.av v)) k = m k
    rw [setP_get h']
    refine upd_ne _ _ fun e => ?_
    have e : k = j := e
    simp only [List.length_cons] at h
    omega
theorem setP_at : ∀ {vs : List AV} {j i : Nat} {m : Mem} {v : AV}, vs[i]? = some v → setP vs j m (j + i) = .av v
  | [], _, _, _, _, h => by simp at h
  | u :: vs, j, 0, m, v, h => by
    simp at h; subst h
    show setP vs (j + 1) (upd m j (.av u)) j = .av u
    rw [setP_get (.inl (Nat.lt_succ_self j)), upd_same]
  | u :: vs, j, i + 1, m, v, h => by
    show setP vs (j + 1) (upd m j (.av u)) (j + (i + 1)) = .av v
    rw [show j + (i + 1) = j + 1 + i by omega]
    exact setP_at (by simpa using h)

section
variable {c : Ctx} {m : Mem} {g : Key → Value} {q : Wld} {N : Nat} {S : Nat → Prop} {as : List A0}

def LV (q q0 : Wld) : Nat → List (A0 × Ent) → Prop
  | _, [] => True
  | k, (a, e) :: r => (∀ v, A0R q v a → A0R q0 v (e.val k)) ∧ LV q q0 (k + e.w) r

theorem lcells_len {cs : List A0} {ks : List (Option STy)} {ds : List DV} (h : LCells m cs ks ds) : cs.length = ks.length ∧ ds.length = ks.length := by
  induction h with
  | nil => exact ⟨rfl, rfl⟩
  | d _ _ _ _ _ ih => simp [ih.1, ih.2]
  | ls _ _ _ _ _ _ _ _ _ _ ih => simp [ih.1, ih.2]

theorem lcells_ok (hG : Good c m g q) (hS : ∀ b, okb q.S q.lab none b → S b) (hn : (lkeys as).Nodup) {cs : List A0} {ks : List (Option STy)} {ds : List DV} (h : LCells m cs ks ds) :
    ∀ {pre post : List A0} {more : List DV}, as = pre ++ (cs ++ post) → (∀ a ∈ cs, ∃ v, A0R q v a) →
      (∀ e ∈ bobjs (N + pre.length) ks (ds ++ more), N ≤ e.1 ∧ (∀ v, e.2 ≠ .av v) ∧ ∀ gk, CR (q.lend N S as) e.1 gk e.2) ∧ (bcells (N + pre.length) ks (ds ++ more)).length = cs.length ∧ ∀ vs, cellsR q vs cs → cellsR (q.lend N S as) vs (bcells (N + pre.length) ks (ds ++ more)) := by
  induction h with
  | nil =>
    intro pre post more has hv
    refine ⟨fun e he => by simp [bobjs] at he, by simp [bcells], fun vs hc => ?_⟩
    have : bcells (N + pre.length) [] ([] ++ more) = [] := by simp [bcells]
    rw [this]
    cases vs with
    | nil => trivial
    | cons _ _ => exact hc.elim
  | d v cs ks ds h ih =>
    intro pre post more has hv
    obtain ⟨h1, h2, h3⟩ := ih (pre := pre ++ [.d v]) (post := post) (more := more) (by simp [has]) (fun a ha => hv a (List.mem_cons_of_mem _ ha))
    rw [show N + (pre ++ [A0.d v]).length = N + pre.length + 1 by simp; omega] at h1 h2 h3
    refine ⟨fun e he => h1 e (by simpa only [List.cons_append, bobjs] using he), by simp only [List.cons_append, bcells, List.length_cons, h2], fun vs hc => ?_⟩
    simp only [List.cons_append, bcells]
    cases vs with
    | nil => exact hc.elim
    | cons u vs => exact ⟨lend_dr hG hS hc.1, h3 vs hc.2⟩
  | ls y off len σ xs cs ks ds hm h ih =>
    intro pre post more has hv
    obtain ⟨h1, h2, h3⟩ := ih (pre := pre ++ [.ls y off len]) (post := post) (more := more) (by simp [has]) (fun a ha => hv a (List.mem_cons_of_mem _ ha))
    rw [show N + (pre ++ [A0.ls y off len]).length = N + pre.length + 1 by simp; omega] at h1 h2 h3
    have hi : as[pre.length]? = some (.ls y off len) := by rw [has]; simp
    have hcr := hG.mem y
    rw [hm] at hcr
    obtain ⟨k1, k2⟩ := lend_ls (N := N) (S := S) hn hi hcr (hv _ (List.mem_cons_self ..))
    refine ⟨fun e he => ?_, by simp only [List.cons_append, bcells, List.length_cons, h2], fun vs hc => ?_⟩
    · simp only [List.cons_append, bobjs] at he
      rcases List.mem_cons.1 he with rfl | he
      · exact ⟨Nat.le_add_right _ _, fun v => by simp, fun gk => k2⟩
      · exact h1 e he
    · simp only [List.cons_append, bcells]
      cases vs with
      | nil => exact hc.elim
      | cons u vs => exact ⟨k1 u hc.1, h3 vs hc.2⟩

theorem lent_ok (hG : Good c m g q) (hS : ∀ b, okb q.S q.lab none b → S b) (hn : (lkeys as).Nodup) {L : List (A0 × Ent)} {ds : List DV} {les : List LE} (h : Lent m L ds les) :
    ∀ {pre : List A0}, as = pre ++ les.flatMap LE.can → (∀ p ∈ L, ∃ v, A0R q v p.1) →
      (∀ e ∈ objs (N + pre.length) (L.map (·.2)) ds, N ≤ e.1 ∧ (∀ v, e.2 ≠ .av v) ∧ ∀ gk, CR (q.lend N S as) e.1 gk e.2) ∧ LV q (q.lend N S as) (N + pre.length) L ∧ (les.flatMap LE.can).length = widthOf (L.map (·.2)) := by
  induction h with
  | nil => exact fun _ _ => ⟨fun e he => by simp [objs] at he, trivial, rfl⟩
  | sl y σ xs L ds les hm h ih =>
    intro pre has hv
    obtain ⟨h1, h2, h3⟩ := ih (pre := pre ++ [.ls y 0 none]) (by simp [has, LE.can]) (fun a ha => hv a (List.mem_cons_of_mem _ ha))
    rw [show N + (pre ++ [A0.ls y 0 none]).length = N + pre.length + 1 by simp; omega] at h1 h2
    have hi : as[pre.length]? = some (.ls y 0 none) := by rw [has]; simp [LE.can]
    have hcr := hG.mem y
    rw [hm] at hcr
    obtain ⟨k1, k2⟩ := lend_ls (N := N) (S := S) hn hi hcr (hv _ (List.mem_cons_self ..))
    refine ⟨fun e he => ?_, ⟨k1, h2⟩, by simp [LE.can, widthOf, Ent.w, h3]; omega⟩
    simp only [List.map_cons, objs] at he
    rcases List.mem_cons.1 he with rfl | he
    · exact ⟨Nat.le_add_right _ _, fun v => by simp, fun gk => k2⟩
    · exact h1 e he
  | mv y off len σ xs L ds les hm h ih =>
    intro pre has hv
    obtain ⟨h1, h2, h3⟩ := ih (pre := pre ++ [.ls y off len]) (by simp [has, LE.can]) (fun a ha => hv a (List.mem_cons_of_mem _ ha))
    rw [show N + (pre ++ [A0.ls y off len]).length = N + pre.length + 1 by simp; omega] at h1 h2
    have hi : as[pre.length]? = some (.ls y off len) := by rw [has]; simp [LE.can]
    have hcr := hG.mem y
    rw [hm] at hcr
    obtain ⟨k1, k2⟩ := lend_ls (N := N) (S := S) hn hi hcr (hv _ (List.mem_cons_self ..))
    refine ⟨fun e he => ?_, ⟨k1, h2⟩, by simp [LE.can, widthOf, Ent.w, h3]; omega⟩
    simp only [List.map_cons, objs] at he
    rcases List.mem_cons.1 he with rfl | he
    · exact ⟨Nat.le_add_right _ _, fun v => by simp, fun gk => k2⟩
    · exact h1 e he
  | bx x cs ks ds' L ds les hm hc h ih =>
    intro pre has hv
    obtain ⟨hl1, hl2⟩ := lcells_len hc
    obtain ⟨h1, h2, h3⟩ := ih (pre := pre ++ .bp x 0 :: cs) (by simp [has, LE.can]) (fun a ha => hv a (List.mem_cons_of_mem _ ha))
    rw [show N + (pre ++ A0.bp x 0 :: cs).length = N + pre.length + (ks.length + 1) by simp [hl1]; omega] at h1 h2
    have hi : as[pre.length]? = some (.bp x 0) := by rw [has]; simp [LE.can]
    have hcr := hG.mem x
    rw [hm] at hcr
    obtain ⟨k1, b, arr, k2, k3, k4, k5⟩ := lend_bp (N := N) (S := S) hn hi hcr
    obtain ⟨p1, p2, p3⟩ := lcells_ok (N := N) (S := S) hG hS hn hc (pre := pre ++ [.bp x 0]) (post := les.flatMap LE.can) (more := ds) (by simp [has, LE.can]) (fun a ha => by
      obtain ⟨j, hj⟩ := List.mem_iff_getElem?.1 ha
      obtain ⟨u, -, hu⟩ := k5.get hj
      exact ⟨u, hu⟩)
    rw [show N + (pre ++ [A0.bp x 0]).length = N + pre.length + 1 by simp; omega] at p1 p2 p3
    refine ⟨fun e he => ?_, ⟨k1, h2⟩, by simp [LE.can, widthOf, Ent.w, h3, hl1]; omega⟩
    simp only [List.map_cons, objs] at he
    rcases List.mem_cons.1 he with rfl | he
    · exact ⟨Nat.le_add_right _ _, fun v => by simp, fun gk => ⟨b, arr, by rw [p2]; exact k2, k3, k4, p3 _ k5⟩⟩
    · rcases List.mem_append.1 he with he | he
      · exact p1 e he
      · rw [List.drop_left' hl2] at he
        exact h1 e he

theorem LV_zip {q0 : Wld} : ∀ {caps : List A0} {es : List Ent} {k : Nat} {L : List (A0 × Ent)}, caps.length = es.length → LV q q0 k (caps.zip es ++ L) → (∀ vs, cellsR q vs caps → cellsR q0 vs (valsOf k es)) ∧ LV q q0 (k + widthOf es) L
  | [], [], k, L, _, h => ⟨fun vs hc => by
      cases vs with
      | nil => trivial
      | cons _ _ => exact hc.elim, h⟩
  | a :: caps, e :: es, k, L, hl, h => by
    obtain ⟨h1, h2⟩ := h
    obtain ⟨h3, h4⟩ := LV_zip (by simpa using hl) h2
    refine ⟨fun vs hc => ?_, by simpa [widthOf, Nat.add_assoc] using h4⟩
    cases vs with
    | nil => exact hc.elim
    | cons v vs => exact ⟨h1 v hc.1, h3 vs hc.2⟩
  | [], _ :: _, _, _, hl, _ => by simp at hl
  | _ :: _, [], _, _, hl, _ => by simp at hl

theorem split_ents : ∀ {args : List AV} {ps : List PS} {A : List AV} {Sh : List (Bool × List CT)} {L : List (A0 × Ent)}, splitA args ps = some (A, Sh, L) → entsOf ps = L.map (·.2) ∧ deepN ps = (Sh.map fun s => s.2.length).sum
  | [], [], _, _, _, h => by simp [splitA] at h; obtain ⟨rfl, rfl, rfl⟩ := h; exact ⟨rfl, rfl⟩
  | v :: vs, .dp a ct :: ps, A, Sh, L, h => by
    simp only [splitA] at h
    split at h
    · rename_i A' S' L' hs
      obtain ⟨h1, h2⟩ := split_ents hs
      cases h
      exact ⟨h1, by simp [deepN, h2]⟩
    · cases h
  | .one a :: vs, .en e :: ps, A, Sh, L, h => by
    simp only [splitA] at h
    split at h
    · rename_i A' S' L' hs
      obtain ⟨h1, h2⟩ := split_ents hs
      cases h
      exact ⟨by simp [entsOf, h1], h2⟩
    · cases h
  | .clo g' caps :: vs, .cl g es :: ps, A, Sh, L, h => by
    simp only [splitA] at h
    cases hb : (Nat.beq g' g && Nat.beq caps.length es.length) with
    | false => simp [hb] at h
    | true =>
      simp only [hb, cond_true] at h
      split at h
      · rename_i A' S' L' hs
        obtain ⟨h1, h2⟩ := split_ents hs
        cases h
        have hl : caps.length = es.length := Nat.eq_of_beq_eq_true ((Bool.and_eq_true _ _).mp hb).2
        refine ⟨?_, h2⟩
        simp only [entsOf, List.map_append, h1]
        congr 1
        rw [← List.unzip_snd, List.unzip_zip_right (by simp [hl])]
      · cases h
  | [], _ :: _, _, _, _, h => by simp [splitA] at h
  | .agg _ :: _, [], _, _, _, h => by simp [splitA] at h
  | .tup _ :: _, [], _, _, _, h => by simp [splitA] at h
  | .one _ :: _, [], _, _, _, h => by simp [splitA] at h
  | .clo _ _ :: _, [], _, _, _, h => by simp [splitA] at h
  | .agg _ :: _, .en _ :: _, _, _, _, h => by simp [splitA] at h
  | .tup _ :: _, .en _ :: _, _, _, _, h => by simp [splitA] at h
  | .clo _ _ :: _, .en _ :: _, _, _, _, h => by simp [splitA] at h
  | .agg _ :: _, .cl _ _ :: _, _, _, _, h => by simp [splitA] at h
  | .tup _ :: _, .cl _ _ :: _, _, _, _, h => by simp [splitA] at h
  | .one _ :: _, .cl _ _ :: _, _, _, _, h => by simp [splitA] at h

theorem avs_ok {q0 : Wld} {SS : Nat → Prop} (hd : ∀ v d, DR SS (fun _ => none) q.w none v d → DR q0.S q0.lab q0.w none v d) : ∀ {args : List AV} {ps : List PS} {A : List AV} {Sh : List (Bool × List CT)} {L : List (A0 × Ent)} {vals : List Value},
    splitA args ps = some (A, Sh, L) → Each (AVR q) vals args → ∃ valsA, Each (AVR q) valsA A ∧ (∀ p ∈ L, ∃ v, A0R q v p.1) ∧
      ∀ (gs : List (Bool × List DV)) (k : Nat) (more : List DV), Each (argR SS q.w) valsA gs → gs.map (fun x => (x.1, x.2.length)) = Sh.map (fun a => (a.1, a.2.length)) → LV q q0 k L → Each (AVR q0) vals (avs ps k (gs.flatMap (·.2) ++ more))
  | [], [], _, _, _, vals, h, hv => by
    simp [splitA] at h; obtain ⟨rfl, rfl, rfl⟩ := h
    cases vals with
    | cons _ _ => exact hv.elim
    | nil => exact ⟨[], trivial, fun p hp => by simp at hp, fun _ _ _ _ _ _ => trivial⟩
  | v :: vs, .dp ag ct :: ps, A, Sh, L, vals, h, hv => by
    simp only [splitA] at h
    split at h
    · rename_i A' S' L' hs
      cases h
      cases vals with
      | nil => exact hv.elim
      | cons u us =>
        obtain ⟨va, h1, h2, h3⟩ := avs_ok hd hs hv.2
        refine ⟨u :: va, ⟨hv.1, h1⟩, h2, fun gs k more hg hsh hl => ?_⟩
        match gs, hg, hsh with
        | [], hg, _ => exact hg.elim
        | (b, ds) :: gs, hg, hsh =>
          simp only [List.map_cons, List.cons.injEq, Prod.mk.injEq] at hsh
          obtain ⟨⟨hbb, hlen⟩, hsh'⟩ := hsh
          clear hsh
          subst hbb
          have h4 := h3 gs k more hg.2 hsh' hl
          cases b with
          | true =>
            obtain ⟨ws, hw, hc⟩ := hg.1
            simp only [List.flatMap_cons, avs, List.append_assoc]
            rw [← hlen, List.take_left' rfl, List.drop_left' rfl]
            refine ⟨⟨ws, hw, ?_⟩, h4⟩
            exact Each.of_get (by rw [List.length_map]; exact hc.length) fun j x y hx hy => by
              rw [List.getElem?_map] at hy
              cases hy' : ds[j]? with
              | none => rw [hy'] at hy; cases hy
              | some d =>
                rw [hy'] at hy; cases hy
                obtain ⟨x', hx', hd'⟩ := hc.get hy'
                rw [hx] at hx'; cases hx'
                exact hd _ _ hd'
          | false =>
            have hg1 : Each (DR SS (fun _ => none) q.w none) [u] ds := hg.1
            match ds, hg1 with
            | [], hg1 => exact hg1.elim
            | [d], hg1 =>
              simp only [List.flatMap_cons, avs, List.append_assoc, List.singleton_append, List.drop_succ_cons, List.drop_zero]
              exact ⟨hd _ _ hg1.1, h4⟩
            | _ :: _ :: _, hg1 => exact hg1.2.elim
    · cases h
  | .one a :: vs, .en e :: ps, A, Sh, L, vals, h, hv => by
    simp only [splitA] at h
    split at h
    · rename_i A' S' L' hs
      cases h
      cases vals with
      | nil => exact hv.elim
      | cons u us =>
        obtain ⟨va, h1, h2, h3⟩ := avs_ok hd hs hv.2
        refine ⟨va, h1, fun p hp => ?_, fun gs k more hg hsh hl => ?_⟩
        · rcases List.mem_cons.1 hp with rfl | hp
          · exact ⟨u, hv.1⟩
          · exact h2 p hp
        · exact ⟨hl.1 u hv.1, h3 gs _ more hg hsh hl.2⟩
    · cases h
  | .clo g' caps :: vs, .cl g es :: ps, A, Sh, L, vals, h, hv => by
    simp only [splitA] at h
    cases hb : (Nat.beq g' g && Nat.beq caps.length es.length) with
    | false => simp [hb] at h
    | true =>
      simp only [hb, cond_true] at h
      split at h
      · rename_i A' S' L' hs
        cases h
        obtain ⟨hb1, hb2⟩ := (Bool.and_eq_true _ _).mp hb
        have hb1 := Nat.eq_of_beq_eq_true hb1
        subst hb1
        have hl : caps.length = (es.map Ent.bx).length := by rw [List.length_map]; exact Nat.eq_of_beq_eq_true hb2
        cases vals with
        | nil => exact hv.elim
        | cons u us =>
          obtain ⟨va, h1, h2, h3⟩ := avs_ok hd hs hv.2
          obtain ⟨ws, hw, hc⟩ := hv.1
          refine ⟨va, h1, fun p hp => ?_, fun gs k more hg hsh hlv => ?_⟩
          · rcases List.mem_append.1 hp with hp | hp
            · have : p.1 ∈ caps := (List.of_mem_zip hp).1
              obtain ⟨j, hj⟩ := List.mem_iff_getElem?.1 this
              obtain ⟨u, -, hu⟩ := hc.get hj
              exact ⟨u, hu⟩
            · exact h2 p hp
          · obtain ⟨h4, h5⟩ := LV_zip hl hlv
            exact ⟨⟨ws, hw, h4 _ hc⟩, h3 gs _ more hg hsh h5⟩
      · cases h
  | [], _ :: _, _, _, _, _, h, _ => by simp [splitA] at h
  | .agg _ :: _, [], _, _, _, _, h, _ => by simp [splitA] at h
  | .tup _ :: _, [], _, _, _, _, h, _ => by simp [splitA] at h
  | .one _ :: _, [], _, _, _, _, h, _ => by simp [splitA] at h
  | .clo _ _ :: _, [], _, _, _, _, h, _ => by simp [splitA] at h
  | .agg _ :: _, .en _ :: _, _, _, _, _, h, _ => by simp [splitA] at h
  | .tup _ :: _, .en _ :: _, _, _, _, _, h, _ => by simp [splitA] at h
  | .clo _ _ :: _, .en _ :: _, _, _, _, _, h, _ => by simp [splitA] at h
  | .agg _ :: _, .cl _ _ :: _, _, _, _, _, h, _ => by simp [splitA] at h
  | .tup _ :: _, .cl _ _ :: _, _, _, _, _, h, _ => by simp [splitA] at h
  | .one _ :: _, .cl _ _ :: _, _, _, _, _, h, _ => by simp [splitA] at h
end

end Ai
end Go.Proofs.Ytfjdfbdiichhdaa
