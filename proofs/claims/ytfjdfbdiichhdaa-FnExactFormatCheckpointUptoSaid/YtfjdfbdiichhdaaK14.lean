/-
  The abstract interpreter, fourteenth part: the soundness of slice literals and make. Conditions: the table agrees with the program (TysOK).
-/
import Derived.Test.YtfjdfbdiichhdaaK13
import Derived.Laws.MakeOwn
namespace Go.Proofs.Ytfjdfbdiichhdaa
open Go
namespace Ai

theorem nodupB_append : ∀ {a b : List Key}, nodupB (a ++ b) = true → nodupB a = true ∧ nodupB b = true ∧ ∀ x ∈ a, x ∉ b
  | [], b, h => ⟨rfl, h, by simp⟩
  | k :: a, b, h => by
    obtain ⟨h1, h2⟩ := nodupB_cons (by simpa using h)
    obtain ⟨h3, h4, h5⟩ := nodupB_append h2
    refine ⟨?_, h4, fun x hx hb => ?_⟩
    · simp only [nodupB, h3, Bool.and_true, List.all_eq_true]
      intro j hj
      have hkj := h1 j (by simp [hj])
      cases hb : Nat.beq k j with
      | false => rfl
      | true => exact absurd (Nat.eq_of_beq_eq_true hb) hkj
    · rcases List.mem_cons.1 hx with rfl | hx
      · exact h1 x (by simp [hb]) rfl
      · exact h5 x hx hb

theorem fillRow {size : Nat} : ∀ (ps : List (Nat × Value)) (k : Nat) (arr : Array Value), (∀ (t : Nat) x, ps[t]? = some x → x.1 = k + t ∧ x.2.cells.size = size) → (k + ps.length) * size ≤ arr.size →
    ∃ arr', Instr.fill (fun i => some (i * size, size)) arr ps = some arr' ∧ arr'.size = arr.size ∧ (∀ j, j < k * size → arr'[j]? = arr[j]?) ∧
      ∀ (t : Nat) x, ps[t]? = some x → ∀ j u, x.2.cells[j]? = some u → arr'[(k + t) * size + j]? = some u
  | [], k, arr, _, _ => ⟨arr, rfl, rfl, fun _ _ => rfl, fun t x h => by simp at h⟩
  | (i, v) :: ps, k, arr, h, hs => by
    obtain ⟨h0, h1⟩ := h 0 _ rfl
    have h0 : i = k := by simpa using h0
    have h1 : v.cells.size = size := h1
    subst h0
    have hs' : (i + 1 + ps.length) * size ≤ arr.size := by rw [show i + 1 + ps.length = i + (ps.length + 1) by omega]; simpa using hs
    have hm : (i + 1) * size ≤ (i + 1 + ps.length) * size := Nat.mul_le_mul_right _ (by omega)
    rw [Nat.add_mul i 1, Nat.one_mul] at hm
    rw [fill_cons rfl h1 (by omega)]
    obtain ⟨arr', a1, a2, a3, a4⟩ := fillRow ps (i + 1) (putA arr (i * size) v.cells.toList) (fun t x hx => by
      obtain ⟨b1, b2⟩ := h (t + 1) x (by simpa using hx)
      exact ⟨by omega, b2⟩) (by rw [putA_size]; exact hs')
    rw [putA_size] at a2
    refine ⟨arr', a1, a2, fun j hj => ?_, fun t x hx j u hu => ?_⟩
    · rw [a3 j (by rw [Nat.add_mul]; omega), putA_get, if_neg (by omega)]
    · cases t with
      | zero =>
        simp at hx
        subst hx
        have hj : j < v.cells.size := (Array.getElem?_eq_some_iff.1 hu).1
        rw [Nat.add_zero, a3 _ (by rw [Nat.add_mul]; omega), putA_get, if_pos ⟨by omega, by simp; omega, by omega⟩]
        rw [Array.getElem?_toList, show i * size + j - i * size = j by omega]
        exact hu
      | succ t =>
        have := a4 t x (by simpa using hx) j u hu
        rwa [show i + 1 + t = i + (t + 1) by omega] at this

section
variable {c : Ctx} {m : Mem} {g : Key → Value} {q : Wld} {nk : Key}

theorem Absd.trans {K : Key} {m2 : Mem} {ws ws' : List (Key × C)} {q1 q2 : Wld} (h1 : Absd c m2 g q K ws q1) (h2 : Absd c (upds m2 ws) g q1 K ws' q2) : Absd c m2 g q K (ws ++ ws') q2 where
  good := by rw [upds_append]; exact h2.good
  step := h1.step.trans h2.step
  w := h2.w.trans h1.w
  fr := h2.fr.trans h1.fr
  keeps k hk := by
    have a := h1.keeps k fun e he => hk e (by simp [he])
    have b := h2.keeps k fun e he => hk e (by simp [he])
    exact ⟨b.loc.trans a.loc, fun bl p hb => ⟨(b.blk bl p (a.blk bl p hb).1).1, (b.blk bl p (a.blk bl p hb).1).2.trans (a.blk bl p hb).2⟩⟩

theorem partR.step {q q' : Wld} (h : Step q q') {x : Nat × Value} {y : Nat × AV} (hp : partR q x y) : partR q' x y := ⟨hp.1, AVR.step h hp.2⟩

theorem buildElems_ev (K : Key) {τ : STy} {cts : List CT} : ∀ {qs : List (Nat × AV)} {i : Nat} {f : List (El τ) → Bool → List (Key × C) → RM} {r : AV × List (Key × C)}, (buildElems nk τ cts qs i f).ev m = some r →
    ∃ es o ws, (f es o ws).ev m = some r ∧ es.length = qs.length ∧ (∀ (t : Nat) x, qs[t]? = some x → x.1 = i + t ∧ x.2.cells.length = τ.sz) ∧ (∀ e ∈ ws, ∃ τ o xs, m e.1 = .arr τ o xs) ∧
      ∀ {us : List (Nat × Value)} {q : Wld} {m2 : Mem} {used : List Key}, Good c m2 g q → (∀ k, k ∉ used → m2 k = m k) → (∀ k ∈ used, ∃ τ o xs, m k = .arr τ o xs) → Each (partR q) us qs →
        nodupB (ws.map (·.1)) = true → (∀ e ∈ ws, e.1 ≠ K) → (∀ e ∈ ws, e.1 ∉ used) →
        ∃ q', Absd c m2 g q K ws q' ∧ ∀ (t : Nat) e, es[t]? = some e → ∀ u, us[t]? = some u → ∀ (j : Nat) x d, u.2.cells[j]? = some x → (enc τ e)[j]? = some d → DR q'.S q'.lab q'.w (elOwn o K ((i + t) * τ.sz + j)) x d
  | [], i, f, r, h => ⟨[], true, [], h, rfl, fun t x hx => by simp at hx, by simp, fun hG _ _ _ _ _ _ => ⟨_, Absd.refl hG K, fun t e he => by simp at he⟩⟩
  | (j, v) :: qs, i, f, r, h => by
    simp only [buildElems] at h
    obtain ⟨hj, h1⟩ := bifn_ev h
    clear h
    obtain ⟨hl, h⟩ := bifn_ev h1
    clear h1
    have hj : i = j := Nat.eq_of_beq_eq_true (by simpa using hj)
    subst hj
    have hl : v.cells.length = cts.length := Nat.eq_of_beq_eq_true (by simpa using hl)
    obtain ⟨ds, o, ws, h, h2, h3, h4⟩ := absorb_ev (c := c) (g := g) K h
    unfold mkElem at h
    cases hd : dec τ ds with
    | none => simp [hd, RM.ev] at h
    | some e =>
      simp only [hd] at h
      have henc := dec_some hd
      obtain ⟨es, o', ws', h, k2, k3, k4, k5⟩ := buildElems_ev K h
      have hsz : v.cells.length = τ.sz := by rw [← enc_len τ e, henc, h2]
      refine ⟨_, _, _, h, by simp [k2], fun t x hx => ?_, fun e he => ?_, fun {us q m2 used} hG hA hU hc n1 n2 n3 => ?_⟩
      · cases t with
        | zero => simp at hx; subst hx; exact ⟨rfl, hsz⟩
        | succ t => have := k3 t x (by simpa using hx); exact ⟨by omega, this.2⟩
      · rcases List.mem_append.1 he with he | he
        · exact h3 e he
        · exact k4 e he
      · cases us with
        | nil => exact hc.elim
        | cons u us =>
          rw [List.map_append] at n1
          obtain ⟨a1, a2, a3⟩ := nodupB_append n1
          have hcv := hc.1.2.cells (by rw [hsz]; exact sz_pos τ)
          obtain ⟨q1, hq1, hd1⟩ := h4 (i * τ.sz) hG hA hU hcv a1 (fun e he => n2 e (by simp [he])) (fun e he => n3 e (by simp [he]))
          obtain ⟨q2, hq2, hd2⟩ := k5 (used := used ++ ws.map (·.1)) hq1.good
            (fun k hk => by
              rw [upds_not fun e he e' => hk (by simp only [List.mem_append]; exact .inr (e' ▸ List.mem_map_of_mem he))]
              exact hA k fun h => hk (by simp [h]))
            (fun k hk => by
              rcases List.mem_append.1 hk with hk | hk
              · exact hU k hk
              · obtain ⟨e, he, rfl⟩ := List.mem_map.1 hk
                exact h3 e he)
            (Each.mono (fun _ _ => partR.step hq1.step) hc.2) a2 (fun e he => n2 e (by simp [he]))
            (fun e he hk => by
              rcases List.mem_append.1 hk with hk | hk
              · exact n3 e (by simp [he]) hk
              · exact a3 _ hk (List.mem_map_of_mem he))
          refine ⟨q2, hq1.trans hq2, fun t e' he' u' hu' j x d hx hd' => ?_⟩
          cases t with
          | zero =>
            simp at he' hu'
            subst he' hu'
            rw [henc] at hd'
            have := hd1 j x d (by simpa using hx) hd'
            have := drEl hq2.step (hq2.keeps K fun e he => n2 e (by simp [he])) this
            rw [Nat.add_zero]
            cases o with
            | true => cases o' with
              | true => exact this
              | false => exact drOfEl this
            | false => exact this
          | succ t =>
            have := hd2 t e' (by simpa using he') u' (by simpa using hu') j x d hx hd'
            rw [show i + 1 + t = i + (t + 1) by omega] at this
            cases o with
            | true => exact this
            | false => exact drOfEl this

theorem flat_scalar {τ : STy} (hf : τ.flat = true) {e : El τ} {j : Nat} {d : DV} (h : (enc τ e)[j]? = some d) : scalar d = true := by
  have hmem := List.mem_of_getElem? h
  cases τ <;> first
    | (simp [enc] at hmem; rcases hmem with h | h | h | h | h | h | h <;> subst h <;> rfl)
    | (simp [enc] at hmem; rcases hmem with h | h | h | h | h <;> subst h <;> rfl)
    | (simp [enc] at hmem; rcases hmem with h | h | h <;> subst h <;> rfl)
    | (simp [enc] at hmem; subst hmem; rfl)
    | cases hf
theorem dr_flat {S : Nat → Prop} {lab : Lab} {w : World} {τ : STy} {e : El τ} {j : Nat} {d : DV} (hd : (enc τ e)[j]? = some d) {o : Bool} {K n : Nat} {u : Value} (h : DR S lab w (elOwn o K n) u d) : DR S lab w (elOwn (τ.flat || o) K n) u d := by
  cases hf : τ.flat with
  | false => exact h
  | true => exact dr_scalar (flat_scalar hf hd) h

/- A new row under a new key. -/
theorem row_does {ws : List (Key × C)} {q1 : Wld} (hq : Absd c m g q nk ws q1) (hf : ¬ q.fr nk) (hN : c.N ≤ nk) {τ : STy} {own : Bool} {xs : List (El τ)} {n cap : Nat} {arr : Array Value} {e : TypeId} (hn : n = xs.length) (hcap : xs.length ≤ cap) (hsz : cap * τ.sz ≤ arr.size)
    (hx : ∀ i x, xs[i]? = some x → ∀ j d, (enc τ x)[j]? = some d → ∃ u, arr[i * τ.sz + j]? = some u ∧ DR q1.S q1.lab q1.w (elOwn own nk (i * τ.sz + j)) u d) {R : Result Value}
    (hR : R = .ok (.slice (some ⟨q.w.heap.size, 0, none⟩) n cap) (q.w.alloc (.cells arr e))) : Does c m g q nk (.one (.ls nk 0 none)) (ws ++ [(nk, .arr τ own xs)]) R := by
  subst hn
  have hf1 : ¬ q1.fr nk := by rw [hq.fr]; exact hf
  obtain ⟨hs, hk⟩ := alloc_step hq.good hf1 ⟨some (q1.w.heap.size, 0), xs.length, cap, τ.sz⟩ (.cells arr e)
  refine ⟨.slice (some ⟨q.w.heap.size, 0, none⟩) xs.length cap, q1.fresh nk ⟨some (q1.w.heap.size, 0), xs.length, cap, τ.sz⟩ (q1.w.alloc (.cells arr e)), ?_, ?_, hq.step.trans hs, ?_, ?_⟩
  · rw [hR, ← hq.w]; rfl
  · rw [upds_append]
    refine good_alloc hq.good hf1 hN _ _ _ (fun v => by simp) ⟨_, fresh_loc, rfl, rfl, hcap, .inr ⟨q1.w.heap.size, 0, arr, rfl, fresh_lab, fresh_blk, by simpa using hsz, fun i x hi j d hj => ?_⟩⟩
    obtain ⟨u, hu, hd⟩ := hx i x hi j d hj
    refine ⟨u, by rw [Nat.zero_add]; exact hu, ?_⟩
    cases own with
    | false => exact drNone hs hd
    | true =>
      exact hd.carry (fun o o' => ∃ p, o = some (nk, p) ∧ o' = o) (fun o o' c ⟨p, h1, h2⟩ => by subst h1 h2; exact ⟨p ++ [c], rfl, rfl⟩)
        (fun o o' b ⟨p, h1, h2⟩ hb => by
          subst h1 h2
          have hb : q1.lab b = some (nk, p) := hb
          have hlt := (hq.good.lab b _ hb).1
          have hne : b ≠ q1.w.heap.size := by omega
          exact ⟨by show (if b = q1.w.heap.size then _ else q1.lab b) = _; rw [if_neg hne]; exact hb, by show (q1.w.heap.push _)[b]? = _; rw [Array.getElem?_push, if_neg hne]⟩) ⟨_, rfl, rfl⟩
  · refine ⟨⟨.inr rfl, rfl⟩, fun L hL => ?_⟩
    rw [fresh_loc] at hL
    cases hL
    exact ⟨_, _, rfl, hcap, by simp, ⟨Nat.zero_le _, by simp [lenOf]⟩, .inr ⟨q1.w.heap.size, 0, rfl, by simp [hq.w]⟩⟩
  · intro k hk
    rcases hk with hk | rfl
    · exact .inl (by rw [← hq.fr]; exact hk)
    · exact .inr ⟨Nat.le_refl _, Nat.lt_add_of_pos_right (by decide)⟩

theorem buildSlice_does (hG : Good c m g q) (hf : ¬ q.fr nk) (hN : c.N ≤ nk) {t : TypeId} {i : TI} (hi : TyOK c.P t i) {τ : STy} {ect : List CT} {ez : List A0} (hel : i.el = some (τ, ect, ez)) {n : Nat} {ps : List (Nat × Value)} {qs : List (Nat × AV)}
    (hp : Each (partR q) ps qs) (hn : n = qs.length) (hsmall : n * τ.sz ≤ 16777216) {v : AV} {ws : List (Key × C)}
    (h : (buildElems nk τ ect qs 0 fun es o ws => bif nodupB (nk :: ws.map (·.1)) then .ret (.one (.ls nk 0 none)) (ws ++ [(nk, .arr τ (τ.flat || o) es)]) else .fail).ev m = some (v, ws)) :
    Does c m g q nk v ws ((Instr.buildSlice t n ps.toArray).run c.P q.w) := by
  obtain ⟨e, hu, ⟨ie, z, h1, h2, h3, h4, h5, h6⟩, -⟩ := hi.el _ _ _ hel
  obtain ⟨es, o, ws', h, k1, k2, k3, k4⟩ := buildElems_ev (c := c) (g := g) nk h
  obtain ⟨hnd, h⟩ := bif_ev h
  obtain ⟨rfl, rfl⟩ := ret_ev h
  obtain ⟨n1, n2⟩ := nodupB_cons hnd
  obtain ⟨q1, hq, hds⟩ := k4 (used := []) hG (fun _ _ => rfl) (by simp) hp n2 (fun e he e' => n1 e.1 (List.mem_map_of_mem he) e'.symm) (by simp)
  have hpl := hp.length
  subst hn
  let init : Array Value := (Array.range (qs.length * ie.size)).map ((if qs.length * ie.size = 0 then #[] else z.cells)[· % (if qs.length * ie.size = 0 then (#[] : Array Value) else z.cells).size]!)
  have hinit : init.size = qs.length * τ.sz := by simp [init, h2]
  obtain ⟨arr, f1, f2, f3, f4⟩ := fillRow (size := τ.sz) ps 0 init (fun t x hx => by
    have hlt : t < qs.length := by rw [← hpl]; exact (List.getElem?_eq_some_iff.1 hx).1
    obtain ⟨b1, b2⟩ := k2 t _ (List.getElem?_eq_getElem hlt)
    obtain ⟨x', hx', hR⟩ := Each.get hp (List.getElem?_eq_getElem hlt)
    rw [hx] at hx'
    cases hx'
    have := (hR.2.cells (by rw [b2]; exact sz_pos τ)).length
    simp at this
    exact ⟨by rw [hR.1]; exact b1, by omega⟩) (by rw [hinit, hpl]; simp)
  refine row_does (n := qs.length) hq hf hN (cap := qs.length) k1.symm (Nat.le_of_eq k1) (by rw [f2, hinit]; exact Nat.le_refl _) (arr := arr) (e := e) (fun t el ht j d hj => ?_) ?_
  · have hlt : t < ps.length := by rw [hpl, ← k1]; exact (List.getElem?_eq_some_iff.1 ht).1
    have hu' := List.getElem?_eq_getElem hlt
    have hltq : t < qs.length := by omega
    obtain ⟨b1, b2⟩ := k2 t _ (List.getElem?_eq_getElem hltq)
    obtain ⟨x', hx', hR⟩ := Each.get hp (List.getElem?_eq_getElem hltq)
    rw [hu'] at hx'
    cases hx'
    have hcl := (hR.2.cells (by rw [b2]; exact sz_pos τ)).length
    have hjlt : j < τ.sz := by have := (List.getElem?_eq_some_iff.1 hj).1; rwa [enc_len] at this
    have hjc : j < ps[t].2.cells.size := by simp at hcl; omega
    have hx := Array.getElem?_eq_getElem hjc
    refine ⟨_, by have := f4 t _ hu' j _ hx; rwa [Nat.zero_add] at this, ?_⟩
    have := hds t el ht _ hu' j _ d hx hj
    rw [Nat.zero_add] at this
    exact dr_flat hj this
  · have hfill : Instr.fill (fun i => some (i * ie.size, ie.size)) init ps = some arr := by rw [h2]; exact f1
    have hsm : ¬ qs.length * ie.size > 2 ^ 24 := by rw [h2]; omega
    simp only [Instr.buildSlice, Sem.run_bind, run_underlying hu, Result.andThen_ok, sizeOf, typeInfo, run_program, h1, Sem.run_pure]
    rw [if_neg hsm]
    by_cases h0 : qs.length * ie.size = 0
    · simp only [init, if_pos h0] at hfill
      rw [if_pos h0]
      simp only [Sem.run_bind, Sem.run_pure, Result.andThen_ok, hfill]
      simp [newRow]
    · simp only [init, if_neg h0] at hfill
      rw [if_neg h0]
      have hzv : (zeroValue e).run c.P q.w = .ok z q.w := by simp [zeroValue, typeInfo, h1, h4]
      simp only [Sem.run_bind, Sem.run_pure, Result.andThen_ok, hzv, hfill]
      simp [newRow]

theorem zero_abs : ∀ {as : List A0} {vs : List Value} {cts : List CT} {f : List DV → Bool → List (Key × C) → RM} {r : AV × List (Key × C)}, zsB vs as = true → (absorb as cts f).ev m = some r →
    ∃ ds, (f ds true []).ev m = some r ∧ ds.length = as.length ∧ ∀ (j : Nat) u d, vs[j]? = some u → ds[j]? = some d → ∀ S lab w o, DR S lab w o u d
  | [], [], cts, f, r, _, h => ⟨[], h, rfl, fun j u d h => by simp at h⟩
  | [], _ :: _, _, _, _, hz, _ => by simp [zsB] at hz
  | _ :: _, [], _, _, _, hz, _ => by simp [zsB] at hz
  | a :: as, v :: vs, cts, f, r, hz, h => by
    simp only [zsB, Bool.and_eq_true] at hz
    obtain ⟨hz1, hz2⟩ := hz
    have fin : ∀ (d : DV) {cts'} {f' : List DV → Bool → List (Key × C) → RM}, (∀ S lab w o, DR S lab w o v d) → (∀ ds, f' ds true [] = f (d :: ds) true []) → (absorb as cts' f').ev m = some r →
        ∃ ds, (f ds true []).ev m = some r ∧ ds.length = (a :: as).length ∧ ∀ (j : Nat) u d, (v :: vs)[j]? = some u → ds[j]? = some d → ∀ S lab w o, DR S lab w o u d := by
      intro d cts' f' hd hf h
      obtain ⟨ds, h1, h2, h3⟩ := zero_abs hz2 h
      rw [hf] at h1
      refine ⟨d :: ds, h1, by simp [h2], fun j u d' hu hd' => ?_⟩
      cases j with
      | zero => simp at hu hd'; subst hu hd'; exact hd
      | succ j => exact h3 j u d' (by simpa using hu) (by simpa using hd')
    unfold zB at hz1
    split at hz1
    · simp at hz1; subst hz1; exact fin _ (fun _ _ _ _ => .b _ _) (fun _ => rfl) (by simpa [absorb] using h)
    · simp at hz1; obtain ⟨rfl, rfl⟩ := hz1; exact fin _ (fun _ _ _ _ => .i _ _ _) (fun _ => rfl) (by simpa [absorb] using h)
    · rename_i s l
      simp at hz1
      subst hz1
      obtain ⟨d⟩ := s
      exact fin _ (fun S lab w o => by simpa using DR.s (S := S) (lab := lab) (w := w) o d.toList) (fun _ => rfl) (by simpa [absorb] using h)
    · cases cts with
      | nil => simp [absorb, RM.ev] at h
      | cons ct cts =>
        cases ct with
        | sl τ => exact fin (.sl τ []) (fun _ _ _ _ => .z _ _ _ _) (fun _ => rfl) h
        | _ => simp [absorb, RM.ev] at h
    · simp [absorb, RM.ev] at h
    · cases hz1

theorem by_le (τ : STy) : τ.by ≤ 384 := by cases τ <;> decide
theorem wrap_small {n : Int} (h0 : 0 ≤ n) (h1 : n ≤ 68719476736) : IntKind.i64.wrap n = n := by
  unfold IntKind.wrap
  simp [IntKind.bits, IntKind.signed]
  omega

theorem makeSlice_does (hG : Good c m g q) (hf : ¬ q.fr nk) (hN : c.N ≤ nk) {t : TypeId} {i : TI} (hi : TyOK c.P t i) {τ : STy} {ect : List CT} {ez : List A0} (hel : i.el = some (τ, ect, ez)) {k k' : IntKind} {l cp : Int} {v : AV} {ws : List (Key × C)}
    (h : (RM.grd (decide (0 ≤ l) && decide (l ≤ cp) && lim cp.toNat) (absorb ez ect fun ds o _ => mkElem τ ds fun e =>
          .ret (.one (.ls nk 0 none)) [(nk, .arr τ (τ.flat || o) (List.replicate l.toNat e))])).ev m = some (v, ws)) :
    Does c m g q nk v ws ((Instr.makeSlice t (.int k l) (.int k' cp)).run c.P q.w) := by
  obtain ⟨e, hu, ⟨ie, z, h1, h2, h3, h4, h5, h6⟩, -⟩ := hi.el _ _ _ hel
  obtain ⟨hb, h⟩ := grd_ev h
  simp only [Bool.and_eq_true, decide_eq_true_eq, lim] at hb
  obtain ⟨ds, h, k1, k2⟩ := zero_abs h6 h
  unfold mkElem at h
  cases hd : dec τ ds with
  | none => simp [hd, RM.ev] at h
  | some el =>
    simp only [hd] at h
    obtain ⟨rfl, rfl⟩ := ret_ev h
    have henc := dec_some hd
    have hby := by_le τ
    have hl := wrap_small hb.1.1 (show l ≤ 68719476736 by omega)
    have hc := wrap_small (show 0 ≤ cp by omega) (show cp ≤ 68719476736 by omega)
    let n := cp.toNat * ie.size
    let arr : Array Value := madeCells z.cells n
    have hsz : arr.size = cp.toNat * τ.sz := by simp [arr, n, h2, madeCells]
    have hrow := row_does (c := c) (m := m) (g := g) (own := τ.flat || true) (Absd.refl hG nk) hf hN (n := l.toNat) (cap := cp.toNat) (xs := List.replicate l.toNat el) (arr := arr) (e := e) (by simp) (by simp; omega) (Nat.le_of_eq hsz.symm)
      (fun j x hj jj d hjj => by
        rw [List.getElem?_replicate] at hj
        split at hj
        · cases hj
          have hjlt : jj < τ.sz := by have := (List.getElem?_eq_some_iff.1 hjj).1; rwa [enc_len] at this
          have hp := sz_pos τ
          have hlt : j * τ.sz + jj < n := by
            show _ < cp.toNat * ie.size
            rw [h2]
            have := Nat.mul_le_mul_right τ.sz (show j + 1 ≤ cp.toNat by omega)
            rw [Nat.add_mul] at this
            omega
          have hju : jj < z.cells.size := by omega
          rw [henc] at hjj
          refine ⟨z.cells[jj], ?_, k2 jj _ d (by rw [Array.getElem?_toList]; exact Array.getElem?_eq_getElem hju) hjj _ _ _ _⟩
          simp only [arr, madeCells, Array.getElem?_map, Array.getElem?_range, hlt, if_true, Option.map_some, h5]
          rw [show (j * τ.sz + jj) % τ.sz = jj by rw [Nat.mul_comm, Nat.mul_add_mod]; exact Nat.mod_eq_of_lt hjlt]
          simp [hju]
        · cases hj) (R := .ok (.slice (some ⟨q.w.heap.size, 0, none⟩) l.toNat cp.toNat) (q.w.alloc (.cells arr e))) rfl
    have hx1 : (ie.bytes : Int) * cp ≤ 281474976710656 := by
      have h384 : (ie.bytes : Int) ≤ 384 := by omega
      have : (ie.bytes : Int) * cp ≤ 384 * cp := Int.mul_le_mul_of_nonneg_right h384 (by omega)
      omega
    rw [run_make q.w t e ie z hu h1 h4 k k' l cp hb.1.1 hb.1.2 hx1 (by omega)]
    simpa using hrow
end
end Ai
end Go.Proofs.Ytfjdfbdiichhdaa
