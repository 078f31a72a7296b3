/-
  The abstract interpreter, eleventh part: taking values into a tree (absorb). Conditions: none beside the relation itself.
-/
import Derived.Test.YtfjdfbdiichhdaaK10
namespace Go.Proofs.Ytfjdfbdiichhdaa
open Go
namespace Ai

theorem dec_some {τ : STy} {ds : List DV} {e : El τ} (h : dec τ ds = some e) : enc τ e = ds := by
  unfold dec at h
  split at h <;> first
    | (cases h; rfl)
    | cases h

theorem upds_upd {ws : List (Key × C)} : ∀ {m : Mem} {k : Key} {x : C}, (∀ e ∈ ws, e.1 ≠ k) → upds (upd m k x) ws = upd (upds m ws) k x := by
  induction ws with
  | nil => intro m k x _; rfl
  | cons e ws ih =>
    intro m k x h
    obtain ⟨j, y⟩ := e
    simp only [upds]
    have hne : j ≠ k := h (j, y) (by simp)
    have : upd (upd m k x) j y = upd (upd m j y) k x := by
      funext i
      by_cases h1 : i = j
      · subst h1; rw [upd_same, upd_ne _ _ hne, upd_same]
      · rw [upd_ne _ _ h1]
        by_cases h2 : i = k
        · subst h2; rw [upd_same, upd_same]
        · rw [upd_ne _ _ h2, upd_ne _ _ h2, upd_ne _ _ h1]
    rw [this, ih fun e he => h e (by simp [he])]

theorem nodupB_cons {k : Key} {r : List Key} (h : nodupB (k :: r) = true) : (∀ j ∈ r, k ≠ j) ∧ nodupB r = true := by
  simp only [nodupB, Bool.and_eq_true, List.all_eq_true] at h
  refine ⟨fun j hj e => ?_, h.2⟩
  have := h.1 j hj
  subst e
  simp at this

/- The tree of the object x, from its element off on, under a new owner. -/
def moved (x K : Key) (pre : List Nat) (d : Nat) : Own → Own
  | some (k, p) => if k = x then (match p with | [] => some (K, pre) | a :: r => some (K, pre ++ (a - d) :: r)) else some (k, p)
  | none => none
def Wld.move (q : Wld) (x K : Key) (pre : List Nat) (d : Nat) : Wld := { q with lab := fun b => moved x K pre d (q.lab b) }

section
variable {c : Ctx} {m : Mem} {g : Key → Value} {q : Wld}

theorem move_step {x K : Key} {pre : List Nat} {d : Nat} : Step q (q.move x K pre d) := by
  refine ⟨rfl, fun _ h => h, fun _ _ => .inl rfl, fun b hb => ⟨?_, rfl⟩⟩
  rcases hb with hb | ⟨k, p, h1, h2⟩
  · exact .inl hb
  · by_cases e : k = x
    · cases p with
      | nil => exact absurd rfl h1
      | cons a r => exact .inr ⟨K, pre ++ (a - d) :: r, by simp, by simp [Wld.move, h2, moved, e]⟩
    · exact .inr ⟨k, p, h1, by simp [Wld.move, h2, moved, e]⟩
theorem move_keeps {x K k : Key} {pre : List Nat} {d : Nat} (hk : k ≠ x) : Keeps q (q.move x K pre d) k :=
  ⟨rfl, fun b p hb => ⟨by simp [Wld.move, hb, moved, hk], rfl⟩⟩

/- The tree below an element, read under the new owner. -/
theorem move_dr {x K : Key} {pre : List Nat} {d n : Nat} {v : Value} {y : DV} (h : DR q.S q.lab q.w (some (x, [n])) v y) :
    DR (q.move x K pre d).S (q.move x K pre d).lab (q.move x K pre d).w (some (K, pre ++ [n - d])) v y :=
  h.carry (fun o o' => ∃ a r, o = some (x, a :: r) ∧ o' = some (K, pre ++ (a - d) :: r)) (fun o o' c ⟨a, r, h1, h2⟩ => by
      subst h1 h2
      exact ⟨a, r ++ [c], by simp [ext], by simp [ext]⟩)
    (fun o o' b ⟨a, r, h1, h2⟩ hb => by
      subst h1 h2
      have hb' : q.lab b = some (x, a :: r) := hb
      exact ⟨by show moved x K pre d (q.lab b) = _; simp [hb', moved], rfl⟩) ⟨n, [], rfl, rfl⟩

theorem sub_get {α : Type} {xs : List α} {off : Nat} {len : Option Nat} {i : Nat} {e : α} (h : (sub xs off len)[i]? = some e) : xs[off + i]? = some e := by
  cases len with
  | none => simpa [sub] using h
  | some k =>
    simp only [sub] at h
    rw [List.getElem?_take] at h
    split at h
    · simpa using h
    · cases h

/- One object goes into a tree. -/
theorem absorb1 (hG : Good c m g q) {x K : Key} {pre : List Nat} (hp : pre ≠ []) {τ : STy} {own : Bool} {xs : List (El τ)} (hm : m x = .arr τ own xs) {off : Nat} {len : Option Nat} {v : Value}
    (hv : A0R q v (.ls x off len)) :
    Good c (upd m x (.fz τ xs)) g (q.move x K pre (off * τ.sz)) ∧
      DR (q.move x K pre (off * τ.sz)).S (q.move x K pre (off * τ.sz)).lab (q.move x K pre (off * τ.sz)).w (bif own then some (K, pre) else none) v (.sl τ (sub xs off len)) := by
  have hcr := hG.mem x
  rw [hm] at hcr
  obtain ⟨L, hL, hn, hz, hcap, hx⟩ := hcr
  have hs := move_step (q := q) (x := x) (K := K) (pre := pre) (d := off * τ.sz)
  have hxN : c.N ≤ x := (hG.loc x L hL).2
  constructor
  · refine good_change hG hs rfl rfl rfl (Nat.le_refl _) (fun _ _ _ => rfl) (fun b y hy => ?_) hG.loc (fun k => ?_)
    · have : ∃ z, q.lab b = some z := by
        cases h : q.lab b with
        | none => simp [Wld.move, h, moved] at hy
        | some z => exact ⟨z, rfl⟩
      obtain ⟨z, hz⟩ := this
      exact ⟨(hG.lab b z hz).1, fun _ => ⟨z, hz⟩⟩
    · by_cases e : k = x
      · subst e
        refine .inr ⟨hxN, .inr ⟨fun v => by rw [upd_same]; simp, ?_⟩⟩
        rw [upd_same]
        refine ⟨L, hL, hn, hz, hcap, ?_⟩
        rcases hx with hx | ⟨b, o, arr, h1, h2, h3, h4, h5⟩
        · exact .inl hx
        · refine .inr (.inr ⟨b, o, h1, .inr ⟨K, pre, hp, by simp [Wld.move, h2, moved]⟩, fun i y hi j d hj => ?_⟩)
          obtain ⟨u, hu, hd⟩ := h5 i y hi j d hj
          exact ⟨u, by show q.w.cell? _ = _; rw [h3.cell]; exact hu, drNone hs (drOfEl hd)⟩
      · exact .inl ⟨upd_ne m _ e, fun _ => move_keeps e⟩
  · obtain ⟨A, cp, rfl, s1, s2, s3, s4⟩ := hv.2 L hL
    have hsl := sub_len hn s3
    rw [← hsl]
    by_cases h0 : sub xs off len = []
    · rw [h0]; exact .z _ _ _ _
    · have hpos : 0 < (sub xs off len).length := List.length_pos_iff.2 h0
      rcases s4 with s4 | ⟨b, o, s5, rfl⟩
      · omega
      · rcases hx with hx | ⟨b', o', arr, h1, h2, h3, h4, h5⟩
        · omega
        · rw [s5] at h1
          cases h1
          have hlab : (q.move x K pre (off * τ.sz)).lab b = some (K, pre) := by simp [Wld.move, h2, moved]
          have hel : ∀ i e, (sub xs off len)[i]? = some e → ∀ j d, (enc τ e)[j]? = some d → ∃ u, q.w.cell? ⟨b, o + off * L.sz + i * τ.sz + j, none⟩ = some u ∧
              DR (q.move x K pre (off * τ.sz)).S (q.move x K pre (off * τ.sz)).lab (q.move x K pre (off * τ.sz)).w (ext (bif own then some (K, pre) else none) (i * τ.sz + j)) u d := by
            intro i e he j d hj
            obtain ⟨u, hu, hd⟩ := h5 (off + i) e (sub_get he) j d hj
            refine ⟨u, ?_, ?_⟩
            · rw [h3.cell, hz, ← hu]
              congr 1
              rw [Nat.add_mul]
              omega
            · cases own with
              | true =>
                have := move_dr (K := K) (pre := pre) (d := off * τ.sz) hd
                simp only [cond_true, ext, Option.map_some]
                rwa [show (off + i) * τ.sz + j - off * τ.sz = i * τ.sz + j by rw [Nat.add_mul]; omega] at this
              | false => exact drNone hs hd
          refine .sl _ τ _ b (o + off * L.sz) cp (fun i j => (q.w.cell? ⟨b, o + off * L.sz + i * τ.sz + j, none⟩).getD undef) (by omega) ?_ (fun i e he j d hj => ?_) (fun i e he j d hj => ?_)
          · cases own with
            | true => exact hlab
            | false => exact .inr ⟨K, pre, hp, hlab⟩
          · obtain ⟨u, hu, _⟩ := hel i e he j d hj
            show q.w.cell? _ = _
            rw [hu]; rfl
          · obtain ⟨u, hu, hd⟩ := hel i e he j d hj
            rw [hu]; exact hd

/- A scalar reads alike under every owner. -/
def scalar : DV → Bool
  | .sl _ _ => false
  | _ => true
theorem dr_scalar {S S' : Nat → Prop} {lab lab' : Lab} {w w' : World} {o o' : Own} {v : Value} {d : DV} (hd : scalar d = true) (h : DR S lab w o v d) : DR S' lab' w' o' v d := by
  cases h with
  | b => exact .b _ _
  | i => exact .i _ _ _
  | s => exact .s _ _
  | z => cases hd
  | sl => cases hd

/- What absorb comes to. -/
structure Absd (c : Ctx) (m : Mem) (g : Key → Value) (q : Wld) (K : Key) (ws : List (Key × C)) (q' : Wld) : Prop where
  good : Good c (upds m ws) g q'
  step : Step q q'
  w : q'.w = q.w
  fr : q'.fr = q.fr
  keeps : ∀ k, (∀ e ∈ ws, e.1 ≠ k) → Keeps q q' k
theorem Absd.refl (hG : Good c m g q) (K : Key) : Absd c m g q K [] q := ⟨hG, Step.refl q, rfl, rfl, fun _ _ => ⟨rfl, fun _ _ h => ⟨h, rfl⟩⟩⟩

theorem absorb_ev (K : Key) : ∀ {cs : List A0} {cts : List CT} {f : List DV → Bool → List (Key × C) → RM} {r : AV × List (Key × C)},
    (absorb cs cts f).ev m = some r → ∃ ds o ws, (f ds o ws).ev m = some r ∧ ds.length = cs.length ∧ (∀ e ∈ ws, ∃ τ o xs, m e.1 = .arr τ o xs) ∧
      ∀ {us : List Value} {q : Wld} {m2 : Mem} {used : List Key} (base : Nat), Good c m2 g q → (∀ k, k ∉ used → m2 k = m k) → (∀ k ∈ used, ∃ τ o xs, m k = .arr τ o xs) → cellsR q us cs →
        nodupB (ws.map (·.1)) = true → (∀ e ∈ ws, e.1 ≠ K) → (∀ e ∈ ws, e.1 ∉ used) →
        ∃ q', Absd c m2 g q K ws q' ∧ ∀ j u d, us[j]? = some u → ds[j]? = some d → DR q'.S q'.lab q'.w (elOwn o K (base + j)) u d
  | [], cts, f, r, h => ⟨[], true, [], h, rfl, by simp, fun _ hG _ _ _ _ _ _ => ⟨_, Absd.refl hG K, fun j u d _ hd => by simp at hd⟩⟩
  | x :: cs, cts, f, r, h => by
    have tail : ∀ {f' : List DV → Bool → List (Key × C) → RM} {cts'}, (absorb cs cts' f').ev m = some r → _ := fun {f'} {cts'} h' => absorb_ev K (cs := cs) (cts := cts') (f := f') h'
    -- a deep cell before a tail
    have deepc : ∀ (d : DV) (ow : Bool), (ow = true → scalar d = true) → ∀ {ds o ws us u q m2} (base : Nat), DR q.S q.lab q.w none u d →
        (∃ q', Absd c m2 g q K ws q' ∧ ∀ j u d, us[j]? = some u → ds[j]? = some d → DR q'.S q'.lab q'.w (elOwn o K (base + 1 + j)) u d) →
        (∃ q', Absd c m2 g q K ws q' ∧ ∀ j u' d', (u :: us)[j]? = some u' → (d :: ds)[j]? = some d' → DR q'.S q'.lab q'.w (elOwn (ow && o) K (base + j)) u' d') := by
      intro d ow how ds o ws us u q m2 base hd ⟨q', hq, hds⟩
      refine ⟨q', hq, fun j u' d' hu hd' => ?_⟩
      cases j with
      | zero =>
        simp at hu hd'
        subst hu hd'
        cases ow with
        | true => exact dr_scalar (how rfl) hd
        | false => exact drNone hq.step hd
      | succ j =>
        have := hds j u' d' (by simpa using hu) (by simpa using hd')
        rw [show base + 1 + j = base + (j + 1) by omega] at this
        cases ow with
        | true => exact this
        | false => exact drOfEl this
    have plain : ∀ (d : DV) (ow : Bool) (hx : ∀ {q : Wld} {u : Value}, A0R q u x → DR q.S q.lab q.w none u d) (how : ow = true → scalar d = true) {cts' : List CT},
        (absorb cs cts' fun ds o ws => f (d :: ds) (ow && o) ws).ev m = some r → ∃ ds o ws, (f ds o ws).ev m = some r ∧ ds.length = (x :: cs).length ∧ (∀ e ∈ ws, ∃ τ o xs, m e.1 = .arr τ o xs) ∧
          ∀ {us : List Value} {q : Wld} {m2 : Mem} {used : List Key} (base : Nat), Good c m2 g q → (∀ k, k ∉ used → m2 k = m k) → (∀ k ∈ used, ∃ τ o xs, m k = .arr τ o xs) → cellsR q us (x :: cs) →
            nodupB (ws.map (·.1)) = true → (∀ e ∈ ws, e.1 ≠ K) → (∀ e ∈ ws, e.1 ∉ used) →
            ∃ q', Absd c m2 g q K ws q' ∧ ∀ j u d, us[j]? = some u → ds[j]? = some d → DR q'.S q'.lab q'.w (elOwn o K (base + j)) u d := by
      intro d ow hx how cts' h
      obtain ⟨ds, o, ws, h1, h2, h3, h4⟩ := tail h
      refine ⟨_, _, _, h1, by simp [h2], h3, fun {us q m2 used} base hG hA hU hc k1 k2 k3 => ?_⟩
      cases us with
      | nil => exact hc.elim
      | cons u us => exact deepc d ow how base (hx hc.1) (h4 (base + 1) hG hA hU hc.2 k1 k2 k3)
    cases x with
    | d v =>
      cases v with
      | sl τ xs => exact plain _ false (fun h => h) (by simp) (by simpa [absorb] using h)
      | b b => exact plain _ true (fun h => h) (fun _ => rfl) (by simpa [absorb] using h)
      | i k n => exact plain _ true (fun h => h) (fun _ => rfl) (by simpa [absorb] using h)
      | s s => exact plain _ true (fun h => h) (fun _ => rfl) (by simpa [absorb] using h)
    | nil =>
      cases cts with
      | nil => simp [absorb, RM.ev] at h
      | cons ct cts =>
        cases ct with
        | sl τ =>
          obtain ⟨ds, o, ws, h1, h2, h3, h4⟩ := tail h
          refine ⟨_, _, _, h1, by simp [h2], h3, fun {us q m2 used} base hG hA hU hc k1 k2 k3 => ?_⟩
          cases us with
          | nil => exact hc.elim
          | cons u us =>
          obtain ⟨q', hq, hds⟩ := h4 (base + 1) hG hA hU hc.2 k1 k2 k3
          refine ⟨q', hq, fun j u' d' hu hd' => ?_⟩
          cases j with
          | zero =>
            simp at hu hd'
            subst hu hd'
            have : u = .slice none 0 0 := hc.1
            subst this
            exact .z _ _ _ _
          | succ j =>
            have := hds j u' d' (by simpa using hu) (by simpa using hd')
            rwa [show base + 1 + j = base + (j + 1) by omega] at this
        | _ => simp [absorb, RM.ev] at h
    | ls x off len =>
      simp only [absorb, RM.ev] at h
      cases hm : m x with
      | arr τ own xs =>
        simp only [hm] at h
        obtain ⟨ds, o, ws, h1, h2, h3, h4⟩ := tail h
        refine ⟨_, _, _, h1, by simp [h2], fun e he => ?_, fun {us q m2 used} base hG hA hU hc k1 k2 k3 => ?_⟩
        · rcases List.mem_cons.1 he with rfl | he
          · exact ⟨τ, own, xs, hm⟩
          · exact h3 e he
        · cases us with
          | nil => exact hc.elim
          | cons u us =>
          obtain ⟨n1, n2⟩ := nodupB_cons (by simpa using k1)
          have hxw : ∀ e ∈ ws, e.1 ≠ x := fun e he e' => n1 e.1 (List.mem_map_of_mem he) e'.symm
          have hxK : x ≠ K := k2 (x, .fz τ xs) (by simp)
          obtain ⟨q1, hq, hds⟩ := h4 (base + 1) hG hA hU hc.2 n2 (fun e he => k2 e (by simp [he])) (fun e he => k3 e (by simp [he]))
          have hm1 : upds m2 ws x = .arr τ own xs := by rw [upds_not hxw, hA x (k3 (x, .fz τ xs) (by simp))]; exact hm
          obtain ⟨hg2, hd2⟩ := absorb1 (K := K) (pre := [base]) hq.good (by simp) hm1 (A0R.step hq.step hc.1)
          have hst := move_step (q := q1) (x := x) (K := K) (pre := [base]) (d := off * τ.sz)
          refine ⟨q1.move x K [base] (off * τ.sz), ⟨?_, hq.step.trans hst, hq.w, hq.fr, fun k hk => ?_⟩, fun j u' d' hu hd' => ?_⟩
          · rw [show upds m2 ((x, C.fz τ xs) :: ws) = upds (upd m2 x (.fz τ xs)) ws from rfl, upds_upd hxw]; exact hg2
          · have a := hq.keeps k fun e he => hk e (by simp [he])
            have b := move_keeps (q := q1) (x := x) (K := K) (pre := [base]) (d := off * τ.sz) (hk (x, .fz τ xs) (by simp)).symm
            exact ⟨b.loc.trans a.loc, fun bl p hb => ⟨(b.blk bl p (a.blk bl p hb).1).1, (b.blk bl p (a.blk bl p hb).1).2.trans (a.blk bl p hb).2⟩⟩
          · cases j with
            | zero =>
              simp at hu hd'
              subst hu hd'
              cases own with
              | true => cases o with
                | true => exact hd2
                | false => exact drWeak hd2 fun k p e => by cases e; simp
              | false => exact hd2
            | succ j =>
              have := hds j u' d' (by simpa using hu) (by simpa using hd')
              rw [show base + 1 + j = base + (j + 1) by omega] at this
              have hthis := drEl hst (move_keeps (q := q1) (x := x) (K := K) (pre := [base]) (d := off * τ.sz) hxK.symm) this
              cases own with
              | true => exact hthis
              | false => exact drOfEl hthis
      | fz τ xs =>
        simp only [hm] at h
        obtain ⟨ds, o, ws, h1, h2, h3, h4⟩ := tail h
        refine ⟨_, false, _, h1, by simp [h2], h3, fun {us q m2 used} base hG hA hU hc k1 k2 k3 => ?_⟩
        cases us with
        | nil => exact hc.elim
        | cons u us =>
        have hm2 : m2 x = .fz τ xs := by
          rw [hA x fun hu => ?_]
          · exact hm
          · obtain ⟨_, _, _, e⟩ := hU x hu
            rw [hm] at e
            cases e
        have hdx : DR q.S q.lab q.w none u (.sl τ (sub xs off len)) := by
          have hcr := hG.mem x
          rw [hm2] at hcr
          obtain ⟨L, hL, hn, hz, hcap, hx⟩ := hcr
          obtain ⟨A, cp, rfl, s1, s2, s3, s4⟩ := hc.1.2 L hL
          have hsl := sub_len hn s3
          rw [← hsl]
          by_cases h0 : sub xs off len = []
          · rw [h0]; exact .z _ _ _ _
          · have hpos : 0 < (sub xs off len).length := List.length_pos_iff.2 h0
            rcases s4 with s4 | ⟨b, o, s5, rfl⟩
            · omega
            · rcases hx with hx | hx | ⟨b', o', k1, k2, k3⟩
              · omega
              · subst hx; cases len <;> simp [sub] at hpos
              · rw [s5] at k1
                cases k1
                have hel : ∀ i e, (sub xs off len)[i]? = some e → ∀ j d, (enc τ e)[j]? = some d → ∃ u, q.w.cell? ⟨b, o + off * L.sz + i * τ.sz + j, none⟩ = some u ∧ DR q.S q.lab q.w none u d := by
                  intro i e he j d hj
                  obtain ⟨u, hu, hd⟩ := k3 (off + i) e (sub_get he) j d hj
                  refine ⟨u, ?_, hd⟩
                  rw [hz, ← hu]
                  congr 2
                  rw [Nat.add_mul]
                  omega
                refine .sl none τ _ b (o + off * L.sz) cp (fun i j => (q.w.cell? ⟨b, o + off * L.sz + i * τ.sz + j, none⟩).getD undef) (by omega) k2 (fun i e he j d hj => ?_) (fun i e he j d hj => ?_)
                · obtain ⟨u, hu, _⟩ := hel i e he j d hj
                  rw [hu]; rfl
                · obtain ⟨u, hu, hd⟩ := hel i e he j d hj
                  rw [hu]; exact hd
        exact deepc _ false (by simp) base hdx (h4 (base + 1) hG hA hU hc.2 k1 k2 k3)
      | _ => simp [hm, RM.ev] at h
    | _ => simp [absorb, RM.ev] at h

end
end Ai
end Go.Proofs.Ytfjdfbdiichhdaa
