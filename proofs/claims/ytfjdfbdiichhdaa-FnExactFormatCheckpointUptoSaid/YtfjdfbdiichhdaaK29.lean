/-
  The abstract interpreter, twenty-ninth part: the contract of a function that is lent objects, from a run of its code. Conditions: as for code; at most two results.
-/
import Derived.Test.YtfjdfbdiichhdaaK28
namespace Go.Proofs.Ytfjdfbdiichhdaa
open Go
namespace Ai

section
variable {c c2 : Ctx} {m m2 : Mem} {g g2 : Key → Value} {q q2 : Wld} {nk N : Nat} {T : RT} {as asF : List A0} {out : List (Bool × DV)} {st : Bool} {P : Program}

/- What holds of the world that the callee leaves. -/
structure Left (c : Ctx) (m : Mem) (g : Key → Value) (q : Wld) (P : Program) (N : Nat) (st : Bool) (as : List A0) (m2 : Mem) (g2 : Key → Value) (q2 : Wld) : Prop where
  hG : Good c m g q
  hG2 : Good (q.ctx P N as (q.lend N (Sst (lkeys as) st q) as)) m2 g2 q2
  hn : (lkeys as).Nodup

theorem Left.hold (h : Left c m g q P N st as m2 g2 q2) {b : Nat} (hb : b < q.w.heap.size) (hr : relT (rtOf q N as 0) none (q.lab b) = none) : q2.w.heap[b]? = q.w.heap[b]? :=
  h.hG2.old b hb fun ⟨x, hx⟩ => by
    have hx : relT (rtOf q N as 0) none (q.lab b) = some x := hx
    rw [hr] at hx; cases hx
theorem Left.lab2 (h : Left c m g q P N st as m2 g2 q2) {b : Nat} {x : Nat × List Nat} (hx : q2.lab b = some x) : b < q2.w.heap.size ∧ (b < q.w.heap.size → ∃ y, relT (rtOf q N as 0) none (q.lab b) = some y) := h.hG2.lab b x hx
theorem Left.lab_none (h : Left c m g q P N st as m2 g2 q2) {b : Nat} (hb : b < q.w.heap.size) (hr : relT (rtOf q N as 0) none (q.lab b) = none) : q2.lab b = none := by
  cases hl : q2.lab b with
  | none => rfl
  | some x =>
    obtain ⟨y, hy⟩ := (h.lab2 hl).2 hb
    rw [hr] at hy; cases hy
theorem Left.keep (h : Left c m g q P N st as m2 g2 q2) {b : Nat} (hb : b < q.w.heap.size) (hr : relT (rtOf q N as 0) none (q.lab b) = none) : (q.back q2 (rtOf q N as 0) T nk asF out).lab b = q.lab b := by
  show (match q2.lab b with
      | some x => relT T (some nk) (some x)
      | none => match relT (rtOf q N as 0) none (q.lab b) with
        | none => q.lab b
        | some _ => none) = _
  rw [h.lab_none hb hr, hr]
theorem relT_some {G : Nat} {x : Nat × List Nat} : ∃ y, relT T (some G) (some x) = some y := by
  obtain ⟨k, p⟩ := x
  simp only [relT]
  split
  · cases p <;> exact ⟨_, rfl⟩
  · exact ⟨_, rfl⟩
theorem Left.deep {b k : Nat} {p : List Nat} (h : q2.lab b = some (k, p)) (hp : p ≠ []) : ∃ k p, p ≠ [] ∧ (q.back q2 (rtOf q N as 0) T nk asF out).lab b = some (k, p) := by
  rw [back_lab h]
  obtain ⟨y, hy⟩ := relT_some (T := T) (G := nk) (x := (k, p))
  rw [hy]
  exact ⟨y.1, y.2, relT_deep hp hy, rfl⟩
theorem Left.step (h : Left c m g q P N st as m2 g2 q2) (hf : ∀ k, nk ≤ k → k < nk + 32 → ¬ q.fr k) : Step q (q.back q2 (rtOf q N as 0) T nk asF out) :=
  ⟨rfl, fun k h => .inl h, fun k hk => .inl (if_neg fun ⟨h1, h2⟩ => hf k h1 h2 hk), fun b hb => by
    have h1 := lend_okb (N := N) (as := as) h.hG (S := Sst (lkeys as) st q) (fun _ h => .inl h) hb
    obtain ⟨h2, h3⟩ := h.hG2.ini b h1
    refine ⟨?_, h3⟩
    rcases hb with hb | ⟨k, p, hp, hl⟩
    · exact .inl hb
    · cases hr : relT (rtOf q N as 0) none (q.lab b) with
      | none => exact .inr ⟨k, p, hp, by rw [h.keep (h.hG.lab b _ hl).1 hr]; exact hl⟩
      | some x =>
        rcases h2 with h2 | ⟨k', p', hp', hl'⟩
        · rw [h.hG2.eS] at h2
          have h2 := h2.2
          rw [hr] at h2; cases h2
        · exact .inr (Left.deep hl' hp')⟩
theorem Left.dr (h : Left c m g q P N st as m2 g2 q2) (hf : ∀ k, nk ≤ k → k < nk + 32 → ¬ q.fr k) (hst : st = true) {v : Value} {d : DV} (hd : DR q2.S q2.lab q2.w none v d) :
    DR (q.back q2 (rtOf q N as 0) T nk asF out).S (q.back q2 (rtOf q N as 0) T nk asF out).lab (q.back q2 (rtOf q N as 0) T nk asF out).w none v d :=
  hd.carry (fun o o' => o = .none ∧ o' = .none) (fun o o' c ⟨e1, e2⟩ => by subst e1 e2; exact ⟨rfl, rfl⟩)
    (fun o o' b ⟨e1, e2⟩ hb => by
      subst e1 e2
      refine ⟨?_, rfl⟩
      rcases hb with hb | ⟨k, p, hp, hl⟩
      · rw [h.hG2.eS] at hb
        rcases hb.1 with hb | ⟨hb, -⟩
        · exact ((h.step hf).okn b hb).1
        · rw [hst] at hb; cases hb
      · exact .inr (Left.deep hl hp)) ⟨rfl, rfl⟩

theorem loc_id {L : Loc} : (⟨L.blk.map fun b => (b.1, b.2 + 0 * L.sz), lenOf L 0 none, L.cap - 0, L.sz⟩ : Loc) = L := by
  obtain ⟨bl, n, cp, sz⟩ := L
  cases bl <;> simp [lenOf]
theorem Left.pinned (h : Left c m g q P N st as m2 g2 q2) {j : Nat} {L L2 : Loc} (hj : j < as.length) (h1 : (q.lend N (Sst (lkeys as) st q) as).loc (N + j) = some L) (h2 : q2.loc (N + j) = some L2) : L2 = L := by
  have hp : (q.ctx P N as (q.lend N (Sst (lkeys as) st q) as)).pl (N + j) = some L := by
    show (if N ≤ N + j ∧ N + j < N + as.length then _ else none) = _
    rw [if_pos ⟨Nat.le_add_right _ _, Nat.add_lt_add_left hj N⟩]; exact h1
  rcases (h.hG2.pin _ _ hp).2 with e | e
  · rw [e] at h2; cases h2; rfl
  · rw [e] at h2; cases h2

theorem Left.lent (h : Left c m g q P N st as m2 g2 q2) (hf : ∀ k, nk ≤ k → k < nk + 32 → ¬ q.fr k) (hN : c.N ≤ nk) (hT : (T.map (·.1)).Nodup) {j : Nat} {les : List LE} {asL : List A0} {outL : List (Bool × DV)} {us : List Nat} (hF : FE st m2 N j les asL outL us) :
    ∀ {pre preF : List A0} {preO : List (Bool × DV)}, as = pre ++ les.flatMap LE.can → pre.length = j → asF = preF ++ asL → out = preO ++ outL → preO.length = preF.length → preF.length + asL.length ≤ 32 →
      (∀ e ∈ rtL q2 N nk les j preF.length asL, e ∈ T) → (∀ le ∈ les, LEok m le) →
      (∀ e ∈ lentWs nk les preF.length outL, c.N ≤ e.1 ∧ (e.2 = cU ∨ ((∀ v, e.2 ≠ .av v) ∧ ∀ gk, CR (q.back q2 (rtOf q N as 0) T nk asF out) e.1 gk e.2))) ∧ ∀ y ∈ lkeys (les.flatMap LE.can), ∃ e ∈ lentWs nk les preF.length outL, e.1 = y := by
  induction hF with
  | nil j => exact fun _ _ _ _ _ _ _ _ => ⟨fun e he => by simp [lentWs] at he, fun y hy => by simp [lkeys] at hy⟩
  | sl j y τ xs ys les asL outL us hm hF ih =>
    intro pre preF preO h1 h2 h3 h4 h5 h6 h7 h8
    obtain ⟨p1, p2⟩ := ih (pre := pre ++ [.ls y 0 none]) (preF := preF ++ [.ls (N + j) 0 none]) (preO := preO ++ [(true, .sl τ ys)]) (by simp [h1, LE.can]) (by simp [h2]) (by simp [h3]) (by simp [h4]) (by simp [h5]) (by simp at h6 ⊢; omega)
      (fun e he => h7 e (by simp only [rtL]; exact List.mem_cons_of_mem _ (by simpa using he))) (fun le hle => h8 le (List.mem_cons_of_mem _ hle))
    have hlen : (preF ++ [A0.ls (N + j) 0 none]).length = preF.length + 1 := by simp
    rw [hlen] at p1 p2
    have hi : as[j]? = some (.ls y 0 none) := by rw [h1, ← h2]; simp [LE.can]
    have hmy : m y = .arr τ true xs := h8 _ (List.mem_cons_self ..)
    have hcr := h.hG.mem y
    rw [hmy] at hcr
    obtain ⟨L, hL, -⟩ := id hcr
    have hcr2 := h.hG2.mem (N + j)
    rw [hm] at hcr2
    obtain ⟨L2, hL2, -⟩ := id hcr2
    have hlend : (q.lend N (Sst (lkeys as) st q) as).loc (N + j) = some L := by
      show (if N ≤ N + j then _ else none) = _
      rw [if_pos (Nat.le_add_right _ _), Nat.add_sub_cancel_left, hi]
      show (q.loc y).map _ = _
      rw [hL, Option.map_some, loc_id]
    have := h.pinned (List.getElem?_eq_some_iff.1 hi).1 hlend hL2
    subst this
    have hfy := (h.hG.loc y _ hL).1
    have hk := back_in (q := q) (T0 := rtOf q N as 0) (nk := nk) (asF := asF) (out := out) hT (fun e => hf y e.1 e.2 hfy) hfy hL hL2 hcr2 (h7 _ (by simp [rtL]))
    refine ⟨fun e he => ?_, fun z hz => ?_⟩
    · simp only [lentWs] at he
      rcases List.mem_cons.1 he with rfl | he
      · exact ⟨(h.hG.loc y _ hL).2, .inr ⟨fun v => by simp, fun gk => hk⟩⟩
      · exact p1 e he
    · simp only [List.flatMap_cons, LE.can, List.singleton_append, lkeys] at hz
      rcases List.mem_cons.1 hz with rfl | hz
      · exact ⟨_, by simp only [lentWs]; exact List.mem_cons_self .., rfl⟩
      · obtain ⟨e, he, e1⟩ := p2 z hz
        exact ⟨e, by simp only [lentWs]; exact List.mem_cons_of_mem _ he, e1⟩
  | mv j y off len τ xs les asL outL us hF ih =>
    intro pre preF preO h1 h2 h3 h4 h5 h6 h7 h8
    obtain ⟨p1, p2⟩ := ih (pre := pre ++ [.ls y off len]) (preF := preF) (preO := preO) (by simp [h1, LE.can]) (by simp [h2]) h3 h4 h5 h6
      (fun e he => h7 e (by simpa only [rtL] using he)) (fun le hle => h8 le (List.mem_cons_of_mem _ hle))
    have hmy : m y = .arr τ true xs := h8 _ (List.mem_cons_self ..)
    have hcr := h.hG.mem y
    rw [hmy] at hcr
    obtain ⟨L, hL, -⟩ := id hcr
    refine ⟨fun e he => ?_, fun z hz => ?_⟩
    · simp only [lentWs] at he
      rcases List.mem_cons.1 he with rfl | he
      · exact ⟨(h.hG.loc y _ hL).2, .inl rfl⟩
      · exact p1 e he
    · simp only [List.flatMap_cons, LE.can, List.singleton_append, lkeys] at hz
      rcases List.mem_cons.1 hz with rfl | hz
      · exact ⟨_, by simp only [lentWs]; exact List.mem_cons_self .., rfl⟩
      · obtain ⟨e, he, e1⟩ := p2 z hz
        exact ⟨e, by simp only [lentWs]; exact List.mem_cons_of_mem _ he, e1⟩
  | bx j x cs ks les asL outL us cs' out' hl hm hx hF ih =>
    intro pre preF preO h1 h2 h3 h4 h5 h6 h7 h8
    obtain ⟨x1, x2, x3⟩ := lx_len hx
    have h7' : ∀ e ∈ (N + j, 0, x) :: (rtOf q2 nk cs' preF.length ++ rtL q2 N nk les (j + (ks.length + 1)) (preF.length + ks.length) asL), e ∈ T := by
      have := h7
      simp only [rtL, List.take_left' x1, List.drop_left' x1] at this
      exact this
    obtain ⟨p1, p2⟩ := ih (pre := pre ++ .bp x 0 :: cs) (preF := preF ++ cs') (preO := preO ++ out') (by simp [h1, LE.can]) (by simp [h2, hl]) (by simp [h3]) (by simp [h4]) (by simp [h5, x1, x2]) (by simp at h6 ⊢; omega)
      (fun e he => h7' e (List.mem_cons_of_mem _ (List.mem_append_right _ (by rw [List.length_append, x1] at he; exact he)))) (fun le hle => h8 le (List.mem_cons_of_mem _ hle))
    rw [List.length_append, x1] at p1 p2
    have hi : as[j]? = some (.bp x 0) := by rw [h1, ← h2]; simp [LE.can]
    obtain ⟨hmx, hkeys, hys⟩ := h8 _ (List.mem_cons_self ..)
    have hcr := h.hG.mem x
    rw [hmx] at hcr
    obtain ⟨b, arr, hL, -⟩ := id hcr
    have hcr2 := h.hG2.mem (N + j)
    rw [hm] at hcr2
    obtain ⟨b2, arr2, hL2, hlab2, hblk2, hcell2⟩ := hcr2
    have hlend : (q.lend N (Sst (lkeys as) st q) as).loc (N + j) = q.loc x := by
      show (if N ≤ N + j then _ else none) = _
      rw [if_pos (Nat.le_add_right _ _), Nat.add_sub_cancel_left, hi]
    have hpin := h.pinned (List.getElem?_eq_some_iff.1 hi).1 (hlend.trans hL) hL2
    have hfx := (h.hG.loc x _ hL).1
    obtain ⟨r1, r2, r3⟩ := back_cells (q := q) (T0 := rtOf q N as 0) (nk := nk) (asF := asF) (out := out) hT h.hG2 (fun hst v d hd => h.dr hf hst hd) hx (i := preF.length) (preF := preF) (postF := asL) (preO := preO) (postO := outL) h3 h4 rfl h5 (by simp at h6; omega)
      (fun e he => h7' e (List.mem_cons_of_mem _ (List.mem_append_left _ he)))
    have hbox : boxR (q.back q2 (rtOf q N as 0) T nk asF out) x (boxC nk preF.length ks (out' ++ outL)) := by
      refine ⟨b2, arr2, ?_, ?_, hblk2, r3 _ hcell2⟩
      · show (if nk ≤ x ∧ x < nk + 32 then _ else q.loc x) = _
        rw [if_neg (fun e => hf x e.1 e.2 hfx), hL, ← hpin, r2]
      · rw [back_lab hlab2]
        have hfnd := rtFind_mem hT (h7' _ (List.mem_cons_self ..))
        simp only [relT, hfnd]
    refine ⟨fun e he => ?_, fun z hz => ?_⟩
    · simp only [lentWs] at he
      rcases List.mem_cons.1 he with rfl | he
      · exact ⟨(h.hG.loc x _ hL).2, .inr ⟨fun v => by simp, fun gk => hbox⟩⟩
      · rcases List.mem_append.1 he with he | he
        · rcases List.mem_append.1 he with he | he
          · obtain ⟨q1, q3, q4⟩ := r1 e he
            exact ⟨Nat.le_trans hN q1, .inr ⟨q3, q4⟩⟩
          · obtain ⟨y, hy, rfl⟩ := List.mem_map.1 he
            obtain ⟨σ, xs, hmy⟩ := hys y hy
            have hcy := h.hG.mem y
            rw [hmy] at hcy
            obtain ⟨L, hLy, -⟩ := hcy
            exact ⟨(h.hG.loc y _ hLy).2, .inl rfl⟩
        · rw [List.drop_left' x2] at he
          exact p1 e he
    · have hz' : z = x ∨ z ∈ lsKeys cs ∨ z ∈ lkeys (les.flatMap LE.can) := by
        simp only [List.flatMap_cons, LE.can, List.cons_append, lkeys] at hz
        rcases List.mem_cons.1 hz with rfl | hz
        · exact .inl rfl
        · have happ : ∀ {a b : List A0}, lkeys (a ++ b) = lkeys a ++ lkeys b := by
            intro a b
            induction a with
            | nil => rfl
            | cons y a ih => cases y <;> simp [lkeys, ih]
          rw [happ, hkeys] at hz
          exact .inr (List.mem_append.1 hz)
      simp only [lentWs]
      rcases hz' with rfl | hz' | hz'
      · exact ⟨_, List.mem_cons_self .., rfl⟩
      · exact ⟨(z, cU), List.mem_cons_of_mem _ (List.mem_append_left _ (List.mem_append_right _ (List.mem_map.2 ⟨z, hz', rfl⟩))), rfl⟩
      · obtain ⟨e, he, e1⟩ := p2 z hz'
        exact ⟨e, List.mem_cons_of_mem _ (List.mem_append_right _ (by rw [List.drop_left' x2]; exact he)), e1⟩
end

end Ai
end Go.Proofs.Ytfjdfbdiichhdaa
