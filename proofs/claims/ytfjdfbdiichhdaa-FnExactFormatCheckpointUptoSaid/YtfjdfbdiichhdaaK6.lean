/-
  The abstract interpreter, sixth part: the soundness of reading (load, index, slice, len and the like). Conditions: the table agrees with the program (TysOK).
-/
import Derived.Test.YtfjdfbdiichhdaaK5
namespace Go.Proofs.Ytfjdfbdiichhdaa
open Go
namespace Ai

theorem add_lit (b o n : Nat) : (⟨b, o, none⟩ : Addr).add n = ⟨b, o + n, none⟩ := by
  unfold Addr.add; split
  · rename_i h; subst h; rfl
  · rfl

theorem drWeak {S : Nat → Prop} {lab : Lab} {w : World} {o : Own} {v : Value} {d : DV} (h : DR S lab w o v d) (ho : ∀ k p, o = some (k, p) → p ≠ []) : DR S lab w none v d :=
  h.carry (fun o o' => (∀ k p, o = some (k, p) → p ≠ []) ∧ o' = none) (fun o o' c ⟨h1, h2⟩ => by
      subst h2
      refine ⟨fun k p e => ?_, rfl⟩
      cases o with
      | none => cases e
      | some x => simp [ext] at e; simp [← e.2])
    (fun o o' b ⟨h1, h2⟩ hb => by
      subst h2
      refine ⟨?_, rfl⟩
      cases o with
      | none => exact hb
      | some x => exact .inr ⟨x.1, x.2, h1 x.1 x.2 rfl, hb⟩) ⟨ho, rfl⟩
theorem drOfEl {S : Nat → Prop} {lab : Lab} {w : World} {own : Bool} {k : Key} {n : Nat} {v : Value} {d : DV} (h : DR S lab w (elOwn own k n) v d) : DR S lab w none v d :=
  drWeak h fun k' p e => by cases own <;> simp [elOwn] at e; simp [← e.2]

theorem Blk.cell {w : World} {b : Nat} {arr : Array Value} (h : Blk w b arr) (off : Nat) : w.cell? ⟨b, off, none⟩ = arr[off]? := by
  obtain ⟨e, fz, hw, _⟩ := h
  simp [World.cell?, hw]
theorem Blk.free {w : World} {b : Nat} {arr : Array Value} (h : Blk w b arr) {off : Nat} (ho : off < arr.size) : w.frozen? ⟨b, off, none⟩ = false := by
  obtain ⟨e, fz, hw, hz⟩ := h
  have := hz off ho
  obtain ⟨lo, hi⟩ := fz
  simp [World.frozen?, hw]
  intro h1
  have := Nat.le_of_not_lt fun h2 => this ⟨h1, h2⟩
  exact this

theorem each_choose {α β : Type} {R : Nat → α → β → Prop} : ∀ (cs : List β) (n : Nat), (∀ j d, cs[j]? = some d → ∃ u, R (n + j) u d) →
    ∃ us : List α, us.length = cs.length ∧ ∀ j u d, us[j]? = some u → cs[j]? = some d → R (n + j) u d
  | [], n, _ => ⟨[], rfl, fun j u d h => by simp at h⟩
  | c :: cs, n, h => by
    obtain ⟨u, hu⟩ := h 0 c rfl
    obtain ⟨us, hl, hus⟩ := each_choose (R := R) cs (n + 1) fun j d hj => by
      obtain ⟨u, hu⟩ := h (j + 1) d (by simpa using hj)
      exact ⟨u, by rwa [show n + 1 + j = n + (j + 1) by omega]⟩
    refine ⟨u :: us, by simp [hl], fun j u' d h1 h2 => ?_⟩
    cases j with
    | zero => simp at h1 h2; subst h1 h2; exact hu
    | succ j => have := hus j u' d (by simpa using h1) (by simpa using h2); rwa [show n + 1 + j = n + (j + 1) by omega] at this

theorem cells_choose {α β : Type} (R : Nat → α → β → Prop) (cs : List β) (h : ∀ j d, cs[j]? = some d → ∃ u, R j u d) :
    ∃ us : List α, us.length = cs.length ∧ ∀ j u d, us[j]? = some u → cs[j]? = some d → R j u d := by
  obtain ⟨us, hl, hus⟩ := each_choose (R := R) cs 0 (by simpa using h)
  exact ⟨us, hl, by simpa using hus⟩

section
variable {c : Ctx} {m : Mem} {g : Key → Value} {q : Wld} {nk : Key} {a : Act}

theorem wp_value {o : Oper} {s : Sem Value} {v : AV} {ws : List (Key × C)} {K : Act → World → Prop} {Q : Exit → Act → World → Prop} (hs : execOp a.eval o = (do pure (.value (← s))))
    (hd : Does c m g q nk v ws (s.run c.P q.w))
    (hK : ∀ val q', Good c (upds m ws) g q' → Step q q' → AVR q' val v → (∀ k, q'.fr k → q.fr k ∨ (nk ≤ k ∧ k < nk + 32)) → K (a.put o.dst val) q'.w) : o.wp c.P a q.w K Q := by
  obtain ⟨val, q', hr, h1, h2, h3, h4⟩ := hd
  unfold Oper.wp
  rw [hs]
  simp only [Sem.run_bind, hr, Result.andThen_ok, Sem.run_pure, Oper.upon]
  exact hK val q' h1 h2 h3 h4

theorem asVal_does (hG : Good c m g q) {t : TypeId} {i : TI} (hi : TyOK c.P t i) {b o : Nat} {us : List Value} {cs : List A0} (hcell : ∀ (j : Nat) (u : Value), us[j]? = some u → q.w.cell? ⟨b, o + j, none⟩ = some u)
    (hR : cellsR q us cs) {v : AV} {ws : List (Key × C)} (h : (asVal i cs).ev m = some (v, ws)) : Does c m g q nk v ws ((loadVar t ⟨b, o, none⟩).run c.P q.w) := by
  unfold asVal at h
  obtain ⟨hl, h⟩ := bifn_ev h
  have hl : cs.length = i.cts.length := by simpa using hl
  have hlen := hR.length
  obtain ⟨inf, d, z, h1, h2, h3, h4, h5, h6, h7, h8⟩ := hi.inf
  have hagg : (isAgg t).run c.P q.w = .ok i.agg q.w := by
    rw [← h8]
    simp only [isAgg, Sem.run_bind, run_underlying h2, Result.andThen_ok]
    cases d <;> rfl
  cases ha : i.agg with
  | true =>
    simp only [ha, cond_true] at h
    obtain ⟨rfl, rfl⟩ := ret_ev h
    have hrun := run_loadCells_list (P := c.P) q.w ⟨b, o, none⟩ us (fun j v hj => by rw [add_lit]; exact hcell j v hj)
    refine Does.pure (val := .agg us.toArray) hG ?_ ⟨us.toArray, rfl, by simpa using hR⟩
    rw [ha] at hagg
    simp only [loadVar, Sem.run_bind, hagg, Result.andThen_ok, if_true, sizeOf, typeInfo, run_program, h1, Sem.run_pure]
    rw [show inf.size = us.length by omega, hrun]
    rfl
  | false =>
    simp only [ha, cond_false] at h
    rw [ha] at hagg
    cases cs with
    | nil => simp [RM.ev] at h
    | cons x r =>
      cases r with
      | cons y r => simp [RM.ev] at h
      | nil =>
        obtain ⟨rfl, rfl⟩ := ret_ev h
        cases us with
        | nil => simp at hlen
        | cons u r =>
          cases r with
          | cons _ _ => simp at hlen
          | nil =>
            refine Does.pure (val := u) hG ?_ hR.1
            have := hcell 0 u rfl
            simp only [Nat.add_zero] at this
            simp only [loadVar, Sem.run_bind, hagg, Result.andThen_ok, Bool.false_eq_true, if_false, run_load, this]

theorem cut_get {α : Type} {cs : List α} {off n j : Nat} {d : α} (h : (cutAt cs off n)[j]? = some d) : cs[off + j]? = some d := by
  unfold cutAt at h
  rw [List.getElem?_take] at h
  split at h
  · rwa [List.getElem?_drop] at h
  · cases h

theorem box_of {x : Key} {off : Nat} {cs : List A0} {p : Value} (hG : Good c m g q) (hp : A0R q p (.bp x off)) (hm : m x = .box cs) :
    ∃ b arr, p = .pointer (some ⟨b, off, none⟩) ∧ q.loc x = some ⟨some (b, 0), cs.length, cs.length, 1⟩ ∧ q.lab b = some (x, []) ∧ Blk q.w b arr ∧ cellsR q arr.toList cs := by
  have h := hG.mem x
  rw [hm] at h
  obtain ⟨b, arr, h1, h2, h3, h4⟩ := h
  obtain ⟨b', o', h5, h6⟩ := hp.2 _ h1
  simp at h5
  obtain ⟨rfl, rfl⟩ := h5
  exact ⟨b, arr, by simpa using h6, h1, h2, h3, h4⟩

/- An element of an object, as cells. -/
theorem el_of {x : Key} {i off : Nat} {τ : STy} {own : Bool} {xs : List (El τ)} {p : Value} {e : El τ} (hG : Good c m g q) (hp : A0R q p (.ep x i off)) (hm : m x = .arr τ own xs ∨ m x = .fz τ xs) (he : xs[i]? = some e) :
    ∃ b o, p = .pointer (some ⟨b, o + i * τ.sz + off, none⟩) ∧ (∀ j d, (enc τ e)[j]? = some d → ∃ u, q.w.cell? ⟨b, o + i * τ.sz + j, none⟩ = some u ∧ DR q.S q.lab q.w none u d) := by
  have h := hG.mem x
  have hi : i < xs.length := by
    rcases Nat.lt_or_ge i xs.length with h | h
    · exact h
    · rw [List.getElem?_eq_none h] at he; cases he
  rcases hm with hm | hm
  · rw [hm] at h
    obtain ⟨L, h1, h2, h3, h4, h5⟩ := h
    obtain ⟨b, o, h6, h7⟩ := hp.2 _ h1
    rcases h5 with h5 | ⟨b', o', arr, h8, h9, h10, h11, h12⟩
    · omega
    · rw [h6] at h8
      simp at h8
      obtain ⟨rfl, rfl⟩ := h8
      refine ⟨b, o, by rw [h7, h3], fun j d hj => ?_⟩
      obtain ⟨u, hu, hd⟩ := h12 i e he j d hj
      exact ⟨u, by rw [h10.cell]; exact hu, drOfEl hd⟩
  · rw [hm] at h
    obtain ⟨L, h1, h2, h3, h4, h5⟩ := h
    obtain ⟨b, o, h6, h7⟩ := hp.2 _ h1
    rcases h5 with h5 | h5 | ⟨b', o', h8, h9, h12⟩
    · omega
    · subst h5; simp at hi
    · rw [h6] at h8
      simp at h8
      obtain ⟨rfl, rfl⟩ := h8
      exact ⟨b, o, by rw [h7, h3], h12 i e he⟩

theorem loadR_does (hG : Good c m g q) {E : Env} (hE : TysOK c.P E) {t : TypeId} {p : Value} {pa : A0} (hp : A0R q p pa) {v : AV} {ws : List (Key × C)} (h : (loadR E t pa).ev m = some (v, ws)) :
    Does c m g q nk v ws ((Instr.loadAt t p).run c.P q.w) := by
  obtain ⟨i, hi, h⟩ := ty_ev h
  have hti := hE _ _ hi
  cases pa with
  | bp x off =>
    simp only [RM.ev] at h
    cases hm : m x with
    | box cs =>
      simp only [hm] at h
      obtain ⟨b, arr, rfl, -, -, hb, hcs⟩ := box_of hG hp hm
      simp only [Instr.loadAt, Instr.sureAddr, Sem.run_bind, Sem.run_pure, Result.andThen_ok]
      exact asVal_does hG hti (us := cutAt arr.toList off i.cts.length) (fun j u hj => by rw [hb.cell, ← Array.getElem?_toList]; exact cut_get hj) (Each.take _ (Each.drop _ hcs)) h
    | _ => simp [hm, RM.ev] at h
  | ep x j off =>
    simp only [RM.ev] at h
    have key : ∀ (τ : STy) (own : Bool) (xs : List (El τ)), (m x = .arr τ own xs ∨ m x = .fz τ xs) → (RM.idx τ xs[j]? fun e => asVal i ((cutAt (enc τ e) off i.cts.length).map .d)).ev m = some (v, ws) →
        Does c m g q nk v ws ((Instr.loadAt t p).run c.P q.w) := by
      intro τ own xs hm h
      cases he : xs[j]? with
      | none => simp [he, RM.ev] at h
      | some e =>
        simp only [he, RM.ev, Option.bind_some] at h
        obtain ⟨b, o, rfl, hc⟩ := el_of hG hp hm he
        obtain ⟨us, hl, hus⟩ := cells_choose (fun k (u : Value) d => q.w.cell? ⟨b, o + j * τ.sz + off + k, none⟩ = some u ∧ DR q.S q.lab q.w none u d) (cutAt (enc τ e) off i.cts.length) (fun k d hk => by
          obtain ⟨u, h1, h2⟩ := hc (off + k) d (cut_get hk)
          exact ⟨u, by rw [Nat.add_assoc (o + j * τ.sz)]; exact h1, h2⟩)
        simp only [Instr.loadAt, Instr.sureAddr, Sem.run_bind, Sem.run_pure, Result.andThen_ok]
        refine asVal_does hG hti (us := us) (fun k u hk => ?_) (Each.of_get (by simp [hl]) fun k u x h1 h2 => ?_) h
        · have hlt : k < (cutAt (enc τ e) off i.cts.length).length := by rw [← hl]; exact (List.getElem?_eq_some_iff.1 hk).1
          exact (hus k u _ hk (List.getElem?_eq_getElem hlt)).1
        · simp at h2
          obtain ⟨d, hd, rfl⟩ := h2
          exact (hus k u d h1 hd).2
    cases hm : m x with
    | arr τ own xs => simp only [hm] at h; exact key τ own xs (.inl hm) h
    | fz τ xs => simp only [hm] at h; exact key τ true xs (.inr hm) h
    | _ => simp [hm, RM.ev] at h
  | fp cs =>
    obtain ⟨b, o, rfl, -, hc⟩ := hp
    obtain ⟨us, hl, hus⟩ := cells_choose (fun k (u : Value) d => q.w.cell? ⟨b, o + k, none⟩ = some u ∧ DR q.S q.lab q.w none u d) (cutAt cs 0 i.cts.length) (fun k d hk => by
      have := cut_get hk
      rw [Nat.zero_add] at this
      exact hc k d this)
    simp only [Instr.loadAt, Instr.sureAddr, Sem.run_bind, Sem.run_pure, Result.andThen_ok]
    refine asVal_does hG hti (us := us) (fun k u hk => ?_) (Each.of_get (by simp [hl]) fun k u x h1 h2 => ?_) h
    · have hlt : k < (cutAt cs 0 i.cts.length).length := by rw [← hl]; exact (List.getElem?_eq_some_iff.1 hk).1
      exact (hus k u _ hk (List.getElem?_eq_getElem hlt)).1
    · simp at h2
      obtain ⟨d, hd, rfl⟩ := h2
      exact (hus k u d h1 hd).2
  | _ => simp [RM.ev] at h
end

end Ai
end Go.Proofs.Ytfjdfbdiichhdaa
