/-
  The abstract interpreter, sixteenth part: append, put together. Conditions: the table agrees with the program (TysOK).
-/
import Derived.Test.YtfjdfbdiichhdaaK15
namespace Go.Proofs.Ytfjdfbdiichhdaa
open Go
namespace Ai
section
variable {c : Ctx} {m : Mem} {g : Key → Value} {q : Wld} {nk : Key}

theorem Does.drew {v : AV} {ws : List (Key × C)} {R : Result Value} (hG : Good c m g q) (h : Does c m g q.drew nk v ws R) : Does c m g q nk v ws R := by
  obtain ⟨val, q', h1, h2, h3, h4, h5⟩ := h
  exact ⟨val, q', h1, h2, (drew_good hG).2.trans h3, h4, h5⟩

/- A location for a new key. -/
def Wld.addObj (q : Wld) (nk : Key) (L : Loc) : Wld := { q with fr := fun k => q.fr k ∨ k = nk, loc := fun k => if k = nk then some L else q.loc k }
theorem addObj_step (hf : ¬ q.fr nk) (L : Loc) : Step q (q.addObj nk L) :=
  ⟨rfl, fun _ h => .inl h, fun k h => .inl (if_neg fun (e : k = nk) => hf (e ▸ h)), fun _ h => ⟨h, rfl⟩⟩
theorem good_addObj (hG : Good c m g q) (hf : ¬ q.fr nk) (hN : c.N ≤ nk) (L : Loc) {x : C} (hx : ∀ v, x ≠ .av v) (hR : CR (q.addObj nk L) nk (g nk) x) : Good c (upd m nk x) g (q.addObj nk L) := by
  refine good_change hG (addObj_step hf L) rfl rfl rfl (Nat.le_refl _) (fun _ _ _ => rfl) (fun b z hz => ⟨(hG.lab b z hz).1, fun _ => ⟨z, hz⟩⟩) (fun k L' hL' => ?_) (fun k => ?_)
  · by_cases e : k = nk
    · subst e; exact ⟨.inr rfl, hN⟩
    · have hL' : q.loc k = some L' := by simpa [Wld.addObj, e] using hL'
      exact ⟨.inl (hG.loc k L' hL').1, (hG.loc k L' hL').2⟩
  · by_cases e : k = nk
    · subst e; exact .inr ⟨hN, .inr ⟨fun v => by rw [upd_same]; exact hx v, by rw [upd_same]; exact hR⟩⟩
    · exact .inl ⟨upd_ne m x e, fun _ => ⟨if_neg e, fun b p hb => ⟨hb, rfl⟩⟩⟩
theorem fresh_av (hG : Good c m g q) (hf : ¬ q.fr nk) : ∃ v, m nk = .av v := by
  have h := hG.mem nk
  cases hm : m nk with
  | av v => exact ⟨v, rfl⟩
  | box cs => rw [hm] at h; obtain ⟨b, arr, h1, -⟩ := h; exact absurd (hG.loc _ _ h1).1 hf
  | arr τ o xs => rw [hm] at h; obtain ⟨L, h1, -⟩ := h; exact absurd (hG.loc _ _ h1).1 hf
  | fz τ xs => rw [hm] at h; obtain ⟨L, h1, -⟩ := h; exact absurd (hG.loc _ _ h1).1 hf

/- An append that leaves an empty slice. -/
theorem empty_does {ws : List (Key × C)} {q1 : Wld} (hg : Good c (upds m ws) g q1) (hst : Step q q1) (hfr : q1.fr = q.fr) (hw : q1.w = q.w) (hf : ¬ q.fr nk) (hN : c.N ≤ nk) {τ : STy} {own : Bool} {A : Option Addr} {R : Result Value} (hR : R = .ok (.slice A 0 0) q.w) :
    Does c m g q nk (.one (.ls nk 0 none)) (ws ++ [(nk, .arr τ own [])]) R := by
  have hf1 : ¬ q1.fr nk := by rw [hfr]; exact hf
  refine ⟨.slice A 0 0, q1.addObj nk ⟨none, 0, 0, τ.sz⟩, by rw [hR, ← hw]; rfl, ?_, hst.trans (addObj_step hf1 _), ⟨⟨.inr rfl, rfl⟩, fun L hL => ?_⟩, fun k hk => ?_⟩
  · rw [upds_append]
    exact good_addObj hg hf1 hN _ (fun v => by simp) ⟨_, if_pos rfl, rfl, rfl, Nat.le_refl _, .inl rfl⟩
  · have : L = ⟨none, 0, 0, τ.sz⟩ := by simpa [Wld.addObj] using hL.symm
    subst this
    exact ⟨A, 0, rfl, Nat.le_refl _, Nat.le_refl _, ⟨Nat.le_refl _, Nat.le_refl _⟩, .inl rfl⟩
  · rcases hk with hk | rfl
    · exact .inl (by rw [← hfr]; exact hk)
    · exact .inr ⟨Nat.le_refl _, Nat.lt_add_of_pos_right (by decide)⟩

theorem lim_fits {n : Nat} {τ : STy} {b old : Nat} (hl : lim n = true) (hb : b ≤ τ.by) (ho : old < n) : Builtin.nextslicecap n old * b ≤ 281474976710656 := by
  have h1 : n ≤ 68719476736 := by simpa [lim] using hl
  have h2 := by_le τ
  refine growslice_fits ho ?_
  calc n * b ≤ 68719476736 * 384 := Nat.mul_le_mul h1 (by omega)
    _ ≤ 140737488355328 := by decide

/- The new block of a growing append. -/
theorem grow_does {ws : List (Key × C)} {q1 : Wld} (hq : Absd c m g q nk ws q1) (hf : ¬ q.fr nk) (hN : c.N ≤ nk) {τ : STy} {own : Bool} {xs ys : List (El τ)} {olds news : List Value} {z : Array Value} {cap : Nat} {e : TypeId}
    (ho : olds.length = xs.length * τ.sz) (hn : news.length = ys.length * τ.sz) (hz : z.size = τ.sz) (hcap : xs.length + ys.length ≤ cap)
    (hx : ∀ i x, xs[i]? = some x → ∀ j d, (enc τ x)[j]? = some d → ∃ u, olds[i * τ.sz + j]? = some u ∧ DR q1.S q1.lab q1.w (elOwn own nk (i * τ.sz + j)) u d)
    (hy : ∀ i x, ys[i]? = some x → ∀ j d, (enc τ x)[j]? = some d → ∃ u, news[i * τ.sz + j]? = some u ∧ DR q1.S q1.lab q1.w (elOwn own nk (xs.length * τ.sz + (i * τ.sz + j))) u d) {R : Result Value}
    (hR : R = .ok (.slice (some ⟨q.w.heap.size, 0, none⟩) (xs.length + ys.length) cap) (q.w.alloc (.cells (olds.toArray ++ news.toArray ++ Builtin.zeroCells z (cap - (xs.length + ys.length))) e))) :
    Does c m g q nk (.one (.ls nk 0 none)) (ws ++ [(nk, .arr τ own (xs ++ ys))]) R := by
  have hp := sz_pos τ
  refine row_does hq hf hN (by simp) (by simpa using hcap) ?_ (fun i x hi j d hj => ?_) hR
  · simp only [Array.size_append, List.size_toArray, ho, hn, size_zeroCells, hz, ← Nat.add_mul]
    exact Nat.mul_le_mul_right _ (by omega)
  · have hjs : j < τ.sz := by have := (List.getElem?_eq_some_iff.1 hj).1; rwa [enc_len] at this
    by_cases h : i < xs.length
    · rw [List.getElem?_append_left h] at hi
      obtain ⟨u, hu, hd⟩ := hx i x hi j d hj
      refine ⟨u, ?_, hd⟩
      have hlt := (List.getElem?_eq_some_iff.1 hu).1
      rw [Array.append_assoc, Array.getElem?_append_left (by simpa using hlt)]
      simpa using hu
    · rw [List.getElem?_append_right (by omega)] at hi
      obtain ⟨u, hu, hd⟩ := hy (i - xs.length) x hi j d hj
      have hlt := (List.getElem?_eq_some_iff.1 hu).1
      have he : xs.length * τ.sz + ((i - xs.length) * τ.sz + j) = i * τ.sz + j := by
        rw [← Nat.add_assoc, ← Nat.add_mul]
        congr 2
        omega
      rw [he] at hd
      refine ⟨u, ?_, hd⟩
      rw [Array.append_assoc, Array.getElem?_append_right (by simp [ho]; rw [← he]; omega), Array.getElem?_append_left (by simp [ho, hn] at hlt ⊢; omega)]
      simp only [List.size_toArray, ho, List.getElem?_toArray]
      rw [← hu]
      congr 1
      omega

theorem appendR_does (hG : Good c m g q) (hf : ¬ q.fr nk) (hN : c.N ≤ nk) {t t' ty : TypeId} {ti ti' : TI} (hi : TyOK c.P t ti) (hi' : TyOK c.P t' ti') {τ σ : STy} {ect ect' : List CT} {ez ez' : List A0} (hel : ti.el = some (τ, ect, ez)) (hel' : ti'.el = some (σ, ect', ez'))
    {x y : Value} {xa ya : A0} (hx : A0R q x xa) (hy : A0R q y ya) {v : AV} {ws : List (Key × C)} (h : (appendR nk τ xa ya).ev m = some (v, ws)) : Does c m g q nk v ws ((Builtin.append_ #[t, t'] ty #[x, y]).run c.P q.w) := by
  obtain ⟨e, hu, ⟨ie, z, h1, h2, h3, h4, h5, h6⟩, -⟩ := hi.el _ _ _ hel
  obtain ⟨e', hu', -, -⟩ := hi'.el _ _ _ hel'
  obtain ⟨hGd, hsd⟩ := drew_good hG
  cases xa with
  | nil =>
    obtain rfl : x = .slice none 0 0 := hx
    simp only [appendR] at h
    obtain ⟨ys, o, ws', h, hsrc⟩ := srcK_ev (c := c) (g := g) h
    obtain ⟨hl, h⟩ := grd_ev h
    obtain ⟨rfl, rfl⟩ := ret_ev h
    by_cases h0 : ys = []
    · subst h0
      obtain ⟨B, bc, q1, news, rfl, hs, hk⟩ := hsrc nk 0 hG hy hf
      have hn0 : news = [] := List.eq_nil_of_length_eq_zero (by have := hs.len; simpa using this)
      subst hn0
      refine empty_does hs.ab.good hs.ab.step hs.ab.fr hs.ab.w hf hN (A := none) ?_
      exact run_append_room' (news := []) hu hu' h1 (n := 0) (by simp) (fun j u hj => by simp at hj) (Nat.le_refl _) (w' := q.w) (fun a h => by cases h) (fun _ => rfl)
    · obtain ⟨B, bc, q1, news, rfl, hs, hk⟩ := hsrc (q := q.drew) nk 0 hGd (A0R.step hsd hy) hf
      have hpos : 0 < ys.length := List.length_pos_iff.2 h0
      refine Does.drew hG ?_
      have hrun := run_append_grow' (P := c.P) (w := q.w) (ty := ty) (A := none) (sLen := 0) (sCap := 0) (bc := bc) (olds := []) hu hu' h1 h4 (n := ys.length) (news := news) (by rw [hs.len, h2]) hs.cell (by simp) (fun j u h => by simp at h) (by omega)
        (by have : ys.length ≤ 68719476736 := by simpa [lim] using hl
            omega) (by rw [Nat.zero_add]; exact lim_fits hl h3 (by omega))
      refine grow_does (xs := []) (olds := []) hs.ab hf hN (by simp) hs.len h5 (cap := grownCap q.w (0 + ys.length) 0 e) (e := e) ?_ (fun i x hx => by simp at hx) (fun i x hx j d hj => ?_) (by simp at hrun ⊢; exact hrun)
      · have := grownCap_ge q.w (0 + ys.length) 0 e
        simpa using this
      · obtain ⟨u, hu, hd⟩ := hs.el i x hx j d hj
        exact ⟨u, hu, by simpa using hd⟩
  | ls xk off len =>
    simp only [appendR, RM.ev] at h
    cases hm : m xk with
    | arr σx own xs =>
      simp only [hm] at h
      by_cases hh : σx = τ
      · subst hh
        simp only [dite_true] at h
        have hgo : (off + lenOf ⟨none, xs.length, 0, 0⟩ off len = xs.length ∨ len = none) ∧ ∃ ys o ws', (∀ {q : Wld} {y : Value} (K s : Nat), Good c m g q → A0R q y ya → ¬ q.fr K →
            ∃ B bc q1 news, y = .slice B ys.length bc ∧ Src c m g q K s σx ys o ws' B q1 news ∧ (∀ e ∈ ws', e.1 ≠ xk ∧ e.1 ≠ K)) ∧ lim ((xs.drop off).length + ys.length) = true ∧ v = .one (.ls nk 0 none) ∧
            ws = ws' ++ [(xk, cU), (nk, .arr σx (σx.flat || own && o) (xs.drop off ++ ys))] := by
          have key : (srcK σx ya xk fun ys o ws => RM.grd (lim ((sub xs off none).length + ys.length)) (.ret (.one (.ls nk 0 none)) (ws ++ [(xk, cU), (nk, .arr σx (σx.flat || own && o) (sub xs off none ++ ys))]))).ev m = some (v, ws) → _ := fun h => srcK_ev (c := c) (g := g) h
          cases len with
          | none =>
            obtain ⟨ys, o, ws', h, hsrc⟩ := key h
            obtain ⟨hl, h⟩ := grd_ev h
            obtain ⟨rfl, rfl⟩ := ret_ev h
            exact ⟨.inr rfl, ys, o, ws', hsrc, hl, rfl, rfl⟩
          | some n =>
            obtain ⟨hb, h⟩ := grd_ev h
            obtain ⟨ys, o, ws', h, hsrc⟩ := key h
            obtain ⟨hl, h⟩ := grd_ev h
            obtain ⟨rfl, rfl⟩ := ret_ev h
            exact ⟨.inl (by simpa [lenOf] using hb), ys, o, ws', hsrc, hl, rfl, rfl⟩
        obtain ⟨hlen, ys, o, ws', hsrc, hl, rfl, rfl⟩ := hgo
        obtain ⟨L, hL, hn, hz, hcap⟩ := loc_of (own := own) hG (.inl hm)
        obtain ⟨A, cp, rfl, s1, s2, s3, s4⟩ := hx.2 L hL
        have hsl : lenOf L off len = (xs.drop off).length := by
          rw [List.length_drop]
          cases len with
          | none => simp [lenOf, hn]
          | some n => simp [lenOf] at hlen ⊢; omega
        rw [hsl] at s1 ⊢
        have hxK : xk ≠ nk := fun e => hf (e ▸ hx.1.1)
        -- the old elements
        have hold : ∀ {q' : Wld}, (∀ b : Nat, q'.w.heap[b]? = q.w.heap[b]?) → q'.lab = q.lab → q'.loc = q.loc → Good c m g q' → 0 < cp → ∃ b o arr, L.blk = some (b, o) ∧ A = some ⟨b, o + off * σx.sz, none⟩ ∧ q.lab b = some (xk, []) ∧ Blk q.w b arr ∧
            o + off * σx.sz + cp * σx.sz ≤ arr.size ∧ ∀ i e, (xs.drop off)[i]? = some e → ∀ j d, (enc σx e)[j]? = some d → ∃ u, arr[o + off * σx.sz + (i * σx.sz + j)]? = some u ∧ DR q'.S q'.lab q'.w (elOwn own xk ((off + i) * σx.sz + j)) u d := by
          intro q' hheap hlab' hloc' hG' hpos
          rcases s4 with s4 | ⟨b, ob, s5, rfl⟩
          · omega
          · have hcr := hG'.mem xk
            rw [hm] at hcr
            obtain ⟨L', hL', -, -, -, hxx⟩ := hcr
            rw [hloc', hL] at hL'
            cases hL'
            rcases hxx with hxx | ⟨b', o', arr, k1, k2, ⟨e0, fz, k3, k3'⟩, k4, k5⟩
            · omega
            · rw [s5] at k1
              cases k1
              refine ⟨b, ob, arr, s5, by rw [hz], by rw [← hlab']; exact k2, ⟨e0, fz, by rw [← hheap]; exact k3, k3'⟩, ?_, fun i e he j d hj => ?_⟩
              · have := Nat.mul_le_mul_right σx.sz s2
                rw [Nat.add_mul] at this
                omega
              · obtain ⟨u, hu, hd⟩ := k5 (off + i) e (by simpa using he) j d hj
                refine ⟨u, ?_, hd⟩
                rw [← hu]
                congr 1
                rw [Nat.add_mul]
                omega
        by_cases hroom : (xs.drop off).length + ys.length ≤ cp
        · obtain ⟨B, bc, q1, news, rfl, hs, hk⟩ := hsrc nk ((xs.drop off).length * σx.sz) hG hy hf
          have hm1 : upds m ws' xk = .arr σx own xs := by rw [upds_not fun e he => (hk e he).1]; exact hm
          have hf1 : ¬ q1.fr nk := by rw [hs.ab.fr]; exact hf
          obtain ⟨q2, g2, st2, w2, f2, kp2, lab2, el2⟩ := kill hs.ab.good hm1 hf1 (off := off) (some (nk, [])) (.inl rfl)
          have hkx : Keeps q q1 xk := hs.ab.keeps xk fun e he => (hk e he).1
          by_cases hcp : cp = 0
          · subst hcp
            have hx0 : xs.drop off = [] := List.eq_nil_of_length_eq_zero (by omega)
            have hy0 : ys = [] := List.eq_nil_of_length_eq_zero (by omega)
            subst hy0
            have hn0 : news = [] := List.eq_nil_of_length_eq_zero (by have := hs.len; simpa using this)
            subst hn0
            rw [hx0]
            have he := empty_does (c := c) (m := m) (g := g) (q := q) (ws := ws' ++ [(xk, cU)]) (q1 := q2) (by rw [upds_append]; exact g2) (hs.ab.step.trans st2) (f2.trans hs.ab.fr) (w2.trans hs.ab.w) hf hN (τ := σx) (own := σx.flat || own && o) (A := A)
              (R := (Builtin.append_ #[t, t'] ty #[.slice A 0 0, .slice B 0 bc]).run c.P q.w)
              (run_append_room' (news := []) hu hu' h1 (n := 0) (by simp) (fun j u hj => by simp at hj) (Nat.le_refl _) (w' := q.w) (fun a h => by simp [storeCells]) (fun _ => rfl))
            simpa using he
          · obtain ⟨b, ob, arr, hLb, rfl, hlb, hblk, hsz, hel⟩ := hold (q' := q) (fun _ => rfl) rfl rfl hG (by omega)
            have hns : news.length = ys.length * σx.sz := hs.len
            obtain ⟨e0, fz, hw, hzz⟩ := id hblk
            have hfit : ob + off * σx.sz + (xs.drop off).length * σx.sz + news.length ≤ arr.size := by
              have := Nat.mul_le_mul_right σx.sz hroom
              rw [Nat.add_mul] at this
              omega
            let p := ob + off * σx.sz + (xs.drop off).length * σx.sz
            obtain ⟨k1, k2, k3, k4, k5, k6⟩ := setCells_heap b news p q.w arr e0 fz hw
            have hst : (storeCells ⟨b, p, none⟩ news).run c.P q.w = .ok () (q.w.setCells b p news) := by
              have := run_storeCells_cells (P := c.P) b p news 0 q.w (fun j hj => by rw [hblk.cell]; simp; omega) (fun j hj => hblk.free (by omega)) hs.one
              simpa using this
            have hrun := run_append_room' (P := c.P) (w := q.w) (ty := ty) (bc := bc) (sCap := cp) hu hu' h1 (n := ys.length) (news := news) (by rw [hns, h2]) hs.cell hroom (A := some ⟨b, ob + off * σx.sz, none⟩)
              (w' := q.w.setCells b p news) (fun a ha => by cases ha; rw [add_lit, h2]; exact hst) (fun h => by cases h)
            have hlb1 : q1.lab b = some (xk, []) := (hkx.blk b _ hlb).1
            have hlb2 : q2.lab b = some (nk, []) := by rw [lab2]; simp [Wld.moveEl, hlb1, movedEl]
            have hk2' : ∀ k, k ≠ b → (q.w.setCells b p news).heap[k]? = q2.w.heap[k]? := fun k hk => by rw [w2, hs.ab.w]; exact k2 k hk
            obtain ⟨st3, kp3⟩ := write_step g2 hlb2 hk2'
            have hf2 : ¬ q2.fr nk := by rw [f2]; exact hf1
            have g3 : Good c (upd (upds m ws') xk cU) g { q2 with w := q.w.setCells b p news } := by
              refine good_change g2 st3 (by show (q.w.setCells b p news).os = _; rw [k4, w2, hs.ab.w]) (by show (q.w.setCells b p news).tape = _; rw [k5, w2, hs.ab.w]) (by show (q.w.setCells b p news).output = _; rw [k6, w2, hs.ab.w])
                (by show _ ≤ (q.w.setCells b p news).heap.size; rw [k3, w2, hs.ab.w]; exact Nat.le_refl _) (fun b' hb' hl' => hk2' b' fun e => by subst e; rw [hlb2] at hl'; cases hl')
                (fun b' z hz' => ⟨by show _ < (q.w.setCells b p news).heap.size; rw [k3, ← hs.ab.w, ← w2]; exact (g2.lab b' z hz').1, fun _ => ⟨z, hz'⟩⟩) g2.loc (fun k => .inl ⟨rfl, fun hv => kp3 k fun e => ?_⟩)
              subst e
              obtain ⟨v, hv'⟩ := fresh_av g2 hf2
              exact hv v hv'
            refine ⟨.slice (some ⟨b, ob + off * σx.sz, none⟩) ((xs.drop off).length + ys.length) cp, ({ q2 with w := q.w.setCells b p news } : Wld).addObj nk ⟨some (b, ob + off * σx.sz), (xs.drop off).length + ys.length, cp, σx.sz⟩, hrun, ?_, ?_, ?_, ?_⟩
            · rw [show ws' ++ [(xk, cU), (nk, C.arr σx (σx.flat || own && o) (xs.drop off ++ ys))] = (ws' ++ [(xk, cU)]) ++ [(nk, C.arr σx (σx.flat || own && o) (xs.drop off ++ ys))] by simp, upds_append, upds_append]
              refine good_addObj g3 hf2 hN _ (fun v => by simp) ⟨_, if_pos rfl, by simp, rfl, by simpa using hroom, .inr ⟨b, ob + off * σx.sz, putA arr p news, rfl, hlb2, ⟨e0, fz, k1, by rw [putA_size]; exact hzz⟩, by rw [putA_size]; exact hsz, fun i x hi j d hj => ?_⟩⟩
              have hjs : j < σx.sz := by have := (List.getElem?_eq_some_iff.1 hj).1; rwa [enc_len] at this
              have toEnd : ∀ {u : Value} {ow : Bool} {n : Nat}, (ow = (own && o) ∨ (ow = (σx.flat || own && o))) → DR q2.S q2.lab q2.w (elOwn ow nk n) u d → DR q2.S q2.lab (q.w.setCells b p news) (elOwn (σx.flat || own && o) nk n) u d := by
                intro u ow n how hd
                have hd' := dr_write hlb2 hk2' st3 hd
                rcases how with rfl | rfl
                · exact dr_flat hj hd'
                · exact hd'
              by_cases hii : i < (xs.drop off).length
              · rw [List.getElem?_append_left hii] at hi
                obtain ⟨u, hu, hd⟩ := hel i x hi j d hj
                have hd1 := drEl hs.ab.step hkx hd
                have hd2 := el2 i x hi j d hj u hd1
                refine ⟨u, ?_, ?_⟩
                · have hlt : i * σx.sz + j < (xs.drop off).length * σx.sz := by
                    have := Nat.mul_le_mul_right σx.sz (show i + 1 ≤ (xs.drop off).length by omega)
                    rw [Nat.add_mul] at this
                    omega
                  rw [putA_get, if_neg (by omega), Nat.add_assoc]
                  exact hu
                · cases o with
                  | true => exact toEnd (.inl (by simp)) hd2
                  | false => exact toEnd (ow := false) (.inl (by simp)) (drOfEl hd2)
              · rw [List.getElem?_append_right (by omega)] at hi
                obtain ⟨u, hu, hd⟩ := hs.el _ x hi j d hj
                have hd2 := drEl st2 (kp2 nk hxK.symm) hd
                have heq : (xs.drop off).length * σx.sz + ((i - (xs.drop off).length) * σx.sz + j) = i * σx.sz + j := by
                  rw [← Nat.add_assoc, ← Nat.add_mul]
                  congr 2
                  omega
                rw [heq] at hd2
                have hlt := (List.getElem?_eq_some_iff.1 hu).1
                refine ⟨u, ?_, ?_⟩
                · rw [putA_get, if_pos ⟨by omega, by omega, by omega⟩, ← hu]
                  congr 1
                  omega
                · cases own with
                  | true => exact toEnd (ow := σx.flat || o) (.inr (by simp)) hd2
                  | false =>
                    by_cases hfl : σx.flat = true
                    · exact toEnd (ow := σx.flat || o) (.inr (by simp [hfl])) hd2
                    · exact toEnd (ow := false) (.inl (by simp)) (drOfEl hd2)
            · exact (hs.ab.step.trans st2).trans (st3.trans (addObj_step (q := { q2 with w := q.w.setCells b p news }) hf2 _))
            · refine ⟨⟨.inr rfl, rfl⟩, fun L' hL' => ?_⟩
              have : L' = ⟨some (b, ob + off * σx.sz), (xs.drop off).length + ys.length, cp, σx.sz⟩ := by simpa [Wld.addObj] using hL'.symm
              subst this
              exact ⟨_, _, rfl, by simpa [lenOf] using hroom, by simp, ⟨Nat.zero_le _, by simp [lenOf]⟩, .inr ⟨b, ob + off * σx.sz, rfl, by simp⟩⟩
            · intro k hk'
              rcases hk' with hk' | rfl
              · exact .inl (by rw [← hs.ab.fr, ← f2]; exact hk')
              · exact .inr ⟨Nat.le_refl _, Nat.lt_add_of_pos_right (by decide)⟩
        · obtain ⟨B, bc, q1, news, rfl, hs, hk⟩ := hsrc (q := q.drew) nk ((xs.drop off).length * σx.sz) hGd (A0R.step hsd hy) hf
          have hm1 : upds m ws' xk = .arr σx own xs := by rw [upds_not fun e he => (hk e he).1]; exact hm
          have hf1 : ¬ q1.fr nk := by rw [hs.ab.fr]; exact hf
          obtain ⟨q2, g2, st2, w2, f2, kp2, lab2, el2⟩ := kill hs.ab.good hm1 hf1 (off := off) (some (xk, [])) (.inr rfl)
          have hkx : Keeps q.drew q1 xk := hs.ab.keeps xk fun e he => (hk e he).1
          have hab : Absd c m g q.drew nk (ws' ++ [(xk, cU)]) q2 := ⟨by rw [upds_append]; exact g2, hs.ab.step.trans st2, w2.trans hs.ab.w, f2.trans hs.ab.fr, fun k hk' => by
            have a := hs.ab.keeps k fun e he => hk' e (by simp [he])
            have b := kp2 k (hk' (xk, cU) (by simp)).symm
            exact ⟨b.loc.trans a.loc, fun bl p hb => ⟨(b.blk bl p (a.blk bl p hb).1).1, (b.blk bl p (a.blk bl p hb).1).2.trans (a.blk bl p hb).2⟩⟩⟩
          have holds : ∃ olds : List Value, olds.length = (xs.drop off).length * σx.sz ∧ (∀ (j : Nat) u, olds[j]? = some u → ∃ a, A = some a ∧ q.w.cell? (a.add j) = some u) ∧
              ∀ i x, (xs.drop off)[i]? = some x → ∀ j d, (enc σx x)[j]? = some d → ∃ u, olds[i * σx.sz + j]? = some u ∧ DR q2.S q2.lab q2.w (elOwn own nk (i * σx.sz + j)) u d := by
            by_cases hcp : 0 < cp
            · obtain ⟨b, ob, arr, hLb, rfl, hlb, hblk, hsz, hel⟩ := hold (q' := q.drew) (fun _ => rfl) rfl rfl hGd hcp
              obtain ⟨olds, n1, n2, n3⟩ := row_news (τ := σx) (xs := xs.drop off) (cell := fun t => arr[ob + off * σx.sz + t]?) (R := fun t u d => DR q2.S q2.lab q2.w (elOwn own nk t) u d) (fun i e he j d hj => by
                obtain ⟨u, hu, hd⟩ := hel i e he j d hj
                exact ⟨u, hu, el2 i e he j d hj u (drEl hs.ab.step hkx hd)⟩)
              exact ⟨olds, n1, fun j u hj => ⟨_, rfl, by rw [add_lit, hblk.cell]; exact (n2 j u hj).1⟩, n3⟩
            · have hx0 : xs.drop off = [] := List.eq_nil_of_length_eq_zero (by omega)
              rw [hx0]
              exact ⟨[], by simp, fun j u h => by simp at h, fun i x hx => by simp at hx⟩
          obtain ⟨olds, o1, o2, o3⟩ := holds
          refine Does.drew hG ?_
          have hlim : (xs.drop off).length + ys.length ≤ 68719476736 := by simpa [lim] using hl
          have hrun := run_append_grow' (P := c.P) (w := q.w) (ty := ty) (bc := bc) hu hu' h1 h4 (n := ys.length) (news := news) (by rw [hs.len, h2]) hs.cell (sLen := (xs.drop off).length) (by rw [o1, h2]) o2 (sCap := cp) (by omega) (by omega) (lim_fits hl h3 (by omega))
          have hgr := grow_does (c := c) (m := m) (g := g) (own := σx.flat || own && o) (ws := ws' ++ [(xk, cU)]) hab hf hN (xs := xs.drop off) (ys := ys) o1 hs.len h5 (cap := grownCap q.w ((xs.drop off).length + ys.length) cp e) (e := e) (grownCap_ge _ _ _ _)
            (fun i x hx j d hj => by
              obtain ⟨u, hu, hd⟩ := o3 i x hx j d hj
              refine ⟨u, hu, dr_flat hj ?_⟩
              cases o with
              | true => simpa using hd
              | false => simp only [Bool.and_false]; exact drOfEl hd)
            (fun i x hx j d hj => by
              obtain ⟨u, hu, hd⟩ := hs.el i x hx j d hj
              have hd2 := drEl st2 (kp2 nk hxK.symm) hd
              refine ⟨u, hu, ?_⟩
              cases own with
              | true => exact hd2
              | false =>
                by_cases hfl : σx.flat = true
                · rw [hfl] at hd2 ⊢; exact hd2
                · exact dr_flat hj (o := false && o) (drOfEl hd2))
            hrun
          simpa using hgr
      · simp [hh, RM.ev] at h
    | _ => simp [hm, RM.ev] at h
  | _ => simp [appendR, RM.ev] at h
end
end Ai
end Go.Proofs.Ytfjdfbdiichhdaa
