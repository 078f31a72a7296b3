/-
  The abstract interpreter, twelfth part: the soundness of stores. Conditions: the table agrees with the program (TysOK).
-/
import Derived.Test.YtfjdfbdiichhdaaK11
namespace Go.Proofs.Ytfjdfbdiichhdaa
open Go
namespace Ai

theorem A0R.oneCell {q : Wld} {v : Value} {a : A0} (hs : solid a = true) (h : A0R q v a) : v.oneCell' = true := by
  cases a with
  | d x => cases h <;> rfl
  | nil => have : v = .slice none 0 0 := h; subst this; rfl
  | ls x off len => exact h.1.2
  | bp x off => exact h.1.2
  | ep x i off => exact h.1.2
  | fp cs => obtain ⟨b, o, rfl, -⟩ := h; rfl
  | uv => cases hs
  | und => cases hs
theorem cells_one {v : Value} (h : v.oneCell' = true) : v.cells = #[v] := by cases v <;> first | rfl | cases h
theorem AVR.cells {q : Wld} {v : Value} {x : AV} (h : AVR q v x) (hn : 0 < x.cells.length) : cellsR q v.cells.toList x.cells := by
  cases x with
  | one a =>
    cases hs : solid a with
    | false => simp [AV.cells, hs] at hn
    | true =>
      have h1 : A0R q v a := h
      rw [cells_one (h1.oneCell hs)]
      simp only [AV.cells, hs, cond_true]
      exact ⟨h1, trivial⟩
  | agg cs => obtain ⟨vs, rfl, hc⟩ := h; exact hc
  | _ => simp [AV.cells] at hn

/- Cells written in a row. -/
def putA (arr : Array Value) (o : Nat) : List Value → Array Value
  | [] => arr
  | v :: r => putA (arr.setIfInBounds o v) (o + 1) r
theorem putA_size : ∀ (vs : List Value) (arr : Array Value) (o : Nat), (putA arr o vs).size = arr.size
  | [], _, _ => rfl
  | v :: r, arr, o => by simp [putA, putA_size r]
theorem putA_get : ∀ (vs : List Value) (arr : Array Value) (o j : Nat), (putA arr o vs)[j]? = if o ≤ j ∧ j < o + vs.length ∧ j < arr.size then vs[j - o]? else arr[j]?
  | [], arr, o, j => by
    have : ¬ (o ≤ j ∧ j < o + ([] : List Value).length ∧ j < arr.size) := by simp; omega
    rw [if_neg this]; rfl
  | v :: r, arr, o, j => by
    simp only [putA, putA_get r, Array.size_setIfInBounds, List.length_cons]
    by_cases h1 : j = o
    · subst h1
      rw [if_neg (by omega)]
      by_cases h2 : j < arr.size
      · rw [if_pos ⟨by omega, by omega, h2⟩]; simp [h2]
      · rw [if_neg (by omega)]; simp [h2]
    · have hne : (arr.setIfInBounds o v)[j]? = arr[j]? := Array.getElem?_setIfInBounds_ne (fun e => h1 e.symm)
      by_cases h2 : o + 1 ≤ j ∧ j < o + 1 + r.length ∧ j < arr.size
      · rw [if_pos h2, if_pos ⟨by omega, by omega, h2.2.2⟩]
        rw [show j - o = (j - (o + 1)) + 1 by omega]; simp
      · rw [if_neg h2, hne, if_neg (by omega)]
theorem setCells_heap (b : Nat) : ∀ (vs : List Value) (o : Nat) (w : World) (arr : Array Value) (e : TypeId) (fz : Nat × Nat), w.heap[b]? = some (.cells arr e fz) →
    (w.setCells b o vs).heap[b]? = some (.cells (putA arr o vs) e fz) ∧ (∀ k, k ≠ b → (w.setCells b o vs).heap[k]? = w.heap[k]?) ∧ (w.setCells b o vs).heap.size = w.heap.size ∧
      (w.setCells b o vs).os = w.os ∧ (w.setCells b o vs).tape = w.tape ∧ (w.setCells b o vs).output = w.output
  | [], _, w, arr, e, fz, h => ⟨h, fun _ _ => rfl, rfl, rfl, rfl, rfl⟩
  | v :: r, o, w, arr, e, fz, h => by
    have h1 : (w.setCell ⟨b, o, none⟩ v).heap[b]? = some (.cells (arr.setIfInBounds o v) e fz) := by
      simp [World.setCell, Array.getElem?_modify, h]
    obtain ⟨a1, a2, a3, a4, a5, a6⟩ := setCells_heap b r (o + 1) _ _ e fz h1
    refine ⟨a1, fun k hk => ?_, a3.trans (by simp [World.setCell]), a4, a5, a6⟩
    rw [World.setCells, a2 k hk]
    simp only [World.setCell, Array.getElem?_modify]
    rw [if_neg (fun e => hk e.symm)]

theorem upds_append {ws ws' : List (Key × C)} : ∀ {m : Mem}, upds m (ws ++ ws') = upds (upds m ws) ws' := by
  induction ws with
  | nil => intro m; rfl
  | cons e ws ih => intro m; obtain ⟨k, x⟩ := e; simp only [List.cons_append, upds]; exact ih

section
variable {c : Ctx} {m : Mem} {g : Key → Value} {q : Wld} {nk : Key}

/- Writing into a block of the call's own. -/
theorem write_step (hG : Good c m g q) {x : Key} {b : Nat} (hb : q.lab b = some (x, [])) {w' : World} (hk : ∀ k, k ≠ b → w'.heap[k]? = q.w.heap[k]?) :
    Step q { q with w := w' } ∧ ∀ k, k ≠ x → Keeps q { q with w := w' } k := by
  have hne : ∀ b', okb q.S q.lab none b' → b' ≠ b := by
    intro b' h e
    subst e
    rcases h with h | ⟨k, p, h1, h2⟩
    · have h := hG.rd b' (hG.eS ▸ h)
      exact absurd ((hG.lab b' _ hb).2 h.1) h.2
    · rw [hb] at h2; cases h2; exact h1 rfl
  refine ⟨⟨rfl, fun _ h => h, fun _ _ => .inl rfl, fun b' h => ⟨h, hk b' (hne b' h)⟩⟩, fun k hkx => ⟨rfl, fun b' p h => ⟨h, hk b' fun e => ?_⟩⟩⟩
  subst e
  rw [hb] at h
  cases h
  exact hkx rfl
theorem keeps_nested {x : Key} {b : Nat} (hb : q.lab b = some (x, [])) {w' : World} (hk : ∀ k, k ≠ b → w'.heap[k]? = q.w.heap[k]?) {a : Nat} {r : List Nat} {b' : Nat} (h : q.lab b' = some (x, a :: r)) : w'.heap[b']? = q.w.heap[b']? :=
  hk b' fun e => by subst e; rw [hb] at h; cases h

/- A tree below an object's cell is kept where only that object's own block is written. -/
theorem dr_write {x : Key} {b : Nat} (hb : q.lab b = some (x, [])) {w' : World} (hk : ∀ k, k ≠ b → w'.heap[k]? = q.w.heap[k]?) (hs : Step q { q with w := w' }) {own : Bool} {n : Nat} {v : Value} {d : DV}
    (h : DR q.S q.lab q.w (elOwn own x n) v d) : DR q.S q.lab w' (elOwn own x n) v d := by
  cases own with
  | false => exact drNone hs h
  | true =>
    exact h.carry (fun o o' => ∃ a r, o = some (x, a :: r) ∧ o' = o) (fun o o' c ⟨a, r, h1, h2⟩ => by subst h1 h2; exact ⟨a, r ++ [c], rfl, rfl⟩)
      (fun o o' b' ⟨a, r, h1, h2⟩ hb' => by subst h1 h2; exact ⟨hb', keeps_nested hb hk hb'⟩) ⟨n, [], rfl, rfl⟩

theorem good_write (hG : Good c m g q) {x : Key} {b : Nat} (hb : q.lab b = some (x, [])) {w' : World} (hk : ∀ k, k ≠ b → w'.heap[k]? = q.w.heap[k]?) (hsz : w'.heap.size = q.w.heap.size)
    (h1 : w'.os = q.w.os) (h2 : w'.tape = q.w.tape) (h3 : w'.output = q.w.output) (hx : c.N ≤ x) {y : C} (hy : ∀ v, y ≠ .av v) (hR : CR { q with w := w' } x (g x) y) : Good c (upd m x y) g { q with w := w' } := by
  obtain ⟨hs, hkeep⟩ := write_step hG hb hk
  refine good_change hG hs h1 h2 h3 (Nat.le_of_eq hsz.symm) (fun b' hb' hl => hk b' fun e => by subst e; rw [hb] at hl; cases hl) (fun b' z hz => ⟨by rw [hsz]; exact (hG.lab b' z hz).1, fun _ => ⟨z, hz⟩⟩) hG.loc (fun k => ?_)
  by_cases e : k = x
  · subst e; exact .inr ⟨hx, .inr ⟨fun v => by rw [upd_same]; exact hy v, by rw [upd_same]; exact hR⟩⟩
  · exact .inl ⟨upd_ne m y e, fun _ => hkeep k e⟩

theorem run_store_own {w : World} {P : Program} {t : TypeId} {n : Nat} {inf : TypeInfo} (hi : P.info? t = some inf) (hn : inf.size = n) {b o : Nat} {arr : Array Value} (hb : Blk w b arr) {v : Value} (hv : v.cells.size = n) (ho : o + n ≤ arr.size)
    (h1 : ∀ u ∈ v.cells.toList, u.oneCell' = true) : (Instr.storeAt t (.pointer (some ⟨b, o, none⟩)) v).run P w = .ok () (w.setCells b o v.cells.toList) := by
  have hc : ∀ j, j < v.cells.toList.length → (w.cell? ⟨b, o + 0 + j, none⟩).isSome = true := fun j hj => by
    rw [hb.cell]; simp at hj; simp; omega
  have hf : ∀ j, j < v.cells.toList.length → w.frozen? ⟨b, o + 0 + j, none⟩ = false := fun j hj => hb.free (by simp at hj; omega)
  have hst := run_storeCells_cells (P := P) b o v.cells.toList 0 w hc hf h1
  simp only [Instr.storeAt, Instr.sureAddr, Sem.run_bind, Sem.run_pure, Result.andThen_ok, storeVar, sizeOf, typeInfo, run_program, hi]
  rw [if_neg (by simp; omega)]
  simpa using hst

theorem put_get {α : Type} {cs new : List α} {off j : Nat} (h : off + new.length ≤ cs.length) : (putAt cs off new)[j]? = if off ≤ j ∧ j < off + new.length then new[j - off]? else cs[j]? := by
  unfold putAt
  by_cases h1 : j < off
  · rw [List.append_assoc, List.getElem?_append_left (by simp; omega), List.getElem?_take, if_pos h1, if_neg (by omega)]
  · by_cases h2 : j < off + new.length
    · rw [List.getElem?_append_left (by simp; omega), List.getElem?_append_right (by simp; omega), if_pos ⟨by omega, h2⟩]
      congr 1; simp; omega
    · rw [List.getElem?_append_right (by simp; omega), if_neg (by omega), List.getElem?_drop]
      congr 1; simp; omega

theorem storeR_does (hG : Good c m g q) {E : Env} (hE : TysOK c.P E) {t : TypeId} {p x : Value} {pa : A0} {xa : AV} (hp : A0R q p pa) (hx : AVR q x xa) {v : AV} {ws : List (Key × C)} (h : (storeR E t pa xa).ev m = some (v, ws)) :
    v = .one .uv ∧ ∃ q', (Instr.storeAt t p x).run c.P q.w = .ok () q'.w ∧ Good c (upds m ws) g q' ∧ Step q q' ∧ ∀ k, q'.fr k → q.fr k := by
  obtain ⟨i, hi, h⟩ := ty_ev h
  obtain ⟨inf, d, z, h1, h2, h3, h4, h5, h6, h7, h8⟩ := (hE _ _ hi).inf
  obtain ⟨hc, h⟩ := bifn_ev h
  simp only [Bool.not_eq_false', Bool.and_eq_true] at hc
  obtain ⟨hlen, hsol⟩ := hc
  have hlen : xa.cells.length = i.cts.length := Nat.eq_of_beq_eq_true hlen
  have hcr := hx.cells (by omega)
  have hsz : x.cells.size = i.cts.length := by have := hcr.length; simp at this; omega
  have hone : ∀ u ∈ x.cells.toList, u.oneCell' = true := by
    intro u hu
    obtain ⟨j, hj, rfl⟩ := List.getElem_of_mem hu
    have hj' : j < xa.cells.length := by rw [← hcr.length]; exact hj
    obtain ⟨u', hu', hR⟩ := Each.get hcr (List.getElem?_eq_getElem hj')
    rw [List.getElem?_eq_getElem hj] at hu'
    cases hu'
    exact hR.oneCell (List.all_eq_true.1 hsol _ (List.getElem_mem hj'))
  cases pa with
  | bp y off =>
    simp only [RM.ev] at h
    cases hm : m y with
    | box cs =>
      simp only [hm] at h
      obtain ⟨hb, h⟩ := grd_ev h
      have hb : off + i.cts.length ≤ cs.length := by simpa using hb
      obtain ⟨rfl, rfl⟩ := ret_ev h
      refine ⟨rfl, ?_⟩
      obtain ⟨b, arr, rfl, hl, hlab, hblk, hcs⟩ := box_of hG hp hm
      have hal : arr.size = cs.length := by have := hcs.length; simpa using this
      have hrun := run_store_own (w := q.w) h1 h3 hblk hsz (o := off) (by omega) hone
      obtain ⟨e, fz, hw, hz⟩ := id hblk
      obtain ⟨s1, s2, s3, s4, s5, s6⟩ := setCells_heap b x.cells.toList off q.w arr e fz hw
      obtain ⟨hs, -⟩ := write_step hG hlab s2
      refine ⟨{ q with w := q.w.setCells b off x.cells.toList }, hrun, ?_, hs, fun _ h => h⟩
      refine good_write hG hlab s2 s3 s4 s5 s6 (hG.loc y _ hl).2 (fun v => by simp) ⟨b, putA arr off x.cells.toList, ?_, hlab, ⟨e, fz, s1, by rw [putA_size]; exact hz⟩, ?_⟩
      · rw [show (putAt cs off xa.cells).length = cs.length by simp [putAt]; omega]; exact hl
      · refine Each.of_get (by simp [putA_size, putAt]; omega) fun j u y hu hy => ?_
        have hl1 : x.cells.toList.length = xa.cells.length := hcr.length
        rw [Array.getElem?_toList, putA_get] at hu
        rw [put_get (by omega)] at hy
        by_cases hj : off ≤ j ∧ j < off + xa.cells.length
        · rw [if_pos ⟨hj.1, by omega, by omega⟩] at hu
          rw [if_pos hj] at hy
          obtain ⟨u', hu', hR⟩ := Each.get hcr hy
          rw [hu] at hu'
          cases hu'
          exact A0R.step hs hR
        · rw [if_neg (by omega)] at hu
          rw [if_neg hj] at hy
          obtain ⟨u', hu', hR⟩ := Each.get hcs hy
          rw [Array.getElem?_toList, hu] at hu'
          cases hu'
          exact A0R.step hs hR
    | _ => simp [hm, RM.ev] at h
  | ep y j off =>
    simp only [RM.ev] at h
    cases hm : m y with
    | arr τ own xs =>
      simp only [hm, RM.ev] at h
      cases he : xs[j]? with
      | none => simp [he] at h
      | some e =>
        simp only [he, Option.bind_some] at h
        obtain ⟨ds, o, ws', h, k1, k2, k3⟩ := absorb_ev (c := c) (g := g) y h
        obtain ⟨hnd, h⟩ := bifn_ev h
        have hnd : nodupB (y :: ws'.map (·.1)) = true := by simpa using hnd
        obtain ⟨n1, n2⟩ := nodupB_cons hnd
        have hyw : ∀ e ∈ ws', e.1 ≠ y := fun e he e' => n1 e.1 (List.mem_map_of_mem he) e'.symm
        unfold mkElem at h
        cases hdec : dec τ (putAt (enc τ e) off ds) with
        | none => simp [hdec, RM.ev] at h
        | some e' =>
          simp only [hdec] at h
          obtain ⟨rfl, rfl⟩ := ret_ev h
          refine ⟨rfl, ?_⟩
          have henc := dec_some hdec
          obtain ⟨q1, hq, hds⟩ := k3 (used := []) (j * τ.sz + off) hG (fun _ _ => rfl) (by simp) hcr n2 hyw (by simp)
          have hm1 : upds m ws' y = .arr τ own xs := by rw [upds_not hyw]; exact hm
          have hp1 := A0R.step hq.step hp
          have hcr1 := hq.good.mem y
          rw [hm1] at hcr1
          obtain ⟨L, hL, hn, hz, hcap, hx1⟩ := hcr1
          obtain ⟨b, o', hLb, rfl⟩ := hp1.2 L hL
          have hj : j < xs.length := (List.getElem?_eq_some_iff.1 he).1
          rcases hx1 with hx1 | ⟨b', o'', arr, r1, r2, r3, r4, r5⟩
          · omega
          · rw [hLb] at r1
            cases r1
            have hoff : off + ds.length ≤ τ.sz := by
              have := enc_len τ e'
              rw [henc] at this
              simp [putAt, enc_len] at this
              omega
            have hdl : ds.length = i.cts.length := by omega
            have hin : o' + j * τ.sz + off + i.cts.length ≤ arr.size := by
              have h9 : (j + 1) * τ.sz ≤ L.cap * τ.sz := Nat.mul_le_mul_right _ (by omega)
              rw [Nat.add_mul] at h9
              omega
            have hrun := run_store_own (w := q1.w) h1 h3 r3 hsz (o := o' + j * τ.sz + off) (by omega) hone
            rw [hz]
            rw [hq.w] at hrun r3
            obtain ⟨e0, fz, hw, hzz⟩ := id r3
            obtain ⟨s1, s2, s3, s4, s5, s6⟩ := setCells_heap b x.cells.toList (o' + j * τ.sz + off) q.w arr e0 fz hw
            have s2' : ∀ k, k ≠ b → (q.w.setCells b (o' + j * τ.sz + off) x.cells.toList).heap[k]? = q1.w.heap[k]? := fun k hk => by rw [hq.w]; exact s2 k hk
            obtain ⟨hs, -⟩ := write_step hq.good r2 s2'
            refine ⟨{ q1 with w := q.w.setCells b (o' + j * τ.sz + off) x.cells.toList }, hrun, ?_, hq.step.trans hs, fun k h => by rw [← hq.fr]; exact h⟩
            rw [upds_append]
            refine good_write hq.good r2 s2' (by rw [hq.w]; exact s3) (by rw [hq.w]; exact s4) (by rw [hq.w]; exact s5) (by rw [hq.w]; exact s6) (hq.good.loc y _ hL).2 (fun v => by simp) ?_
            refine ⟨L, hL, by simp [hn], hz, by simp; exact hcap, .inr ⟨b, o', putA arr (o' + j * τ.sz + off) x.cells.toList, hLb, r2, ⟨e0, fz, s1, by rw [putA_size]; exact hzz⟩, by rw [putA_size]; exact r4, ?_⟩⟩
            intro i' y' hi' k d hk
            have hown : ∀ {u : Value} {d : DV} {n : Nat}, DR q1.S q1.lab q1.w (elOwn (own && o) y n) u d → d ∈ enc τ y' → DR q1.S q1.lab (q.w.setCells b (o' + j * τ.sz + off) x.cells.toList) (elOwn (τ.flat || own && o) y n) u d := by
              intro u d n hd hmem
              have hd' := dr_write r2 s2' hs hd
              cases hf : τ.flat with
              | false => simpa using hd'
              | true =>
                have hsc : scalar d = true := by
                  cases τ <;> first
                    | (simp [enc] at hmem; rcases hmem with h | h | h | h | h | h | h <;> subst h <;> rfl)
                    | (simp [enc] at hmem; rcases hmem with h | h | h | h | h <;> subst h <;> rfl)
                    | (simp [enc] at hmem; rcases hmem with h | h | h <;> subst h <;> rfl)
                    | (simp [enc] at hmem; subst hmem; rfl)
                    | cases hf
                exact dr_scalar hsc hd'
            have hklt : k < τ.sz := by have := (List.getElem?_eq_some_iff.1 hk).1; rwa [enc_len] at this
            have hxl : x.cells.toList.length = i.cts.length := by simp [hsz]
            by_cases hij : i' = j
            · subst hij
              rw [List.getElem?_set_self hj] at hi'
              cases hi'
              rw [henc, put_get (by rw [enc_len]; omega)] at hk
              by_cases hkk : off ≤ k ∧ k < off + ds.length
              · rw [if_pos hkk] at hk
                have hlt : k - off < x.cells.toList.length := by omega
                refine ⟨x.cells.toList[k - off], ?_, hown ?_ (by rw [henc]; simp only [putAt, List.mem_append]; exact .inl (.inr (List.mem_of_getElem? hk)))⟩
                · rw [putA_get, if_pos ⟨by omega, by omega, by omega⟩, ← List.getElem?_eq_getElem hlt]
                  congr 1
                  omega
                · have := hds (k - off) _ d (List.getElem?_eq_getElem hlt) hk
                  rw [show i' * τ.sz + off + (k - off) = i' * τ.sz + k by omega] at this
                  cases own with
                  | true => exact this
                  | false => exact drOfEl this
              · rw [if_neg hkk] at hk
                obtain ⟨u, hu, hd⟩ := r5 i' e he k d hk
                refine ⟨u, by rw [putA_get, if_neg (by omega)]; exact hu, hown ?_ (by rw [henc]; exact List.mem_of_getElem? (i := k) (by rw [put_get (by rw [enc_len]; omega), if_neg hkk]; exact hk))⟩
                cases o with
                | true => simpa using hd
                | false => simp only [Bool.and_false]; exact drOfEl hd
            · rw [List.getElem?_set_ne (fun e => hij e.symm)] at hi'
              obtain ⟨u, hu, hd⟩ := r5 i' y' hi' k d hk
              have hneq : ¬ (o' + j * τ.sz + off ≤ o' + i' * τ.sz + k ∧ o' + i' * τ.sz + k < o' + j * τ.sz + off + x.cells.toList.length) := by
                intro ⟨a1, a2⟩
                rcases Nat.lt_or_gt_of_ne hij with hlt | hgt
                · have := Nat.mul_le_mul_right τ.sz (show i' + 1 ≤ j by omega)
                  rw [Nat.add_mul] at this
                  omega
                · have := Nat.mul_le_mul_right τ.sz (show j + 1 ≤ i' by omega)
                  rw [Nat.add_mul] at this
                  omega
              refine ⟨u, by rw [putA_get, if_neg (fun ⟨a, b, _⟩ => hneq ⟨a, b⟩)]; exact hu, hown ?_ (List.mem_of_getElem? hk)⟩
              cases o with
              | true => simpa using hd
              | false => simp only [Bool.and_false]; exact drOfEl hd
    | _ => simp [hm, RM.ev] at h
  | _ => simp [RM.ev] at h
end
end Ai
end Go.Proofs.Ytfjdfbdiichhdaa
