/-
  The abstract interpreter, twenty-sixth part: what the callee is lent, and what its first state describes. Conditions: none (lemmas).
-/
import Derived.Test.YtfjdfbdiichhdaaK25
namespace Go.Proofs.Ytfjdfbdiichhdaa
open Go
namespace Ai

/- 1. New names for objects. -/
abbrev RT := List (Nat × Nat × Nat)
def rtFind (z : Nat) : RT → Option (Nat × Nat)
  | [] => none
  | (y, s, t) :: r => if y = z then some (s, t) else rtFind z r
def relT (T : RT) (G : Option Nat) : Own → Own
  | none => none
  | some (z, p) => match rtFind z T with
    | some (s, t) => match p with
      | [] => some (t, [])
      | n :: r => some (t, (n - s) :: r)
    | none => match G with
      | none => none
      | some g => some (g, z :: p)
theorem rtFind_mem {z s t : Nat} : ∀ {T : RT}, (T.map (·.1)).Nodup → (z, s, t) ∈ T → rtFind z T = some (s, t)
  | [], _, h => by simp at h
  | (y, s', t') :: r, hn, h => by
    simp only [List.map_cons, List.nodup_cons] at hn
    rcases List.mem_cons.1 h with e | e
    · cases e; simp [rtFind]
    · have : y ≠ z := fun e' => hn.1 (e' ▸ List.mem_map.2 ⟨_, e, rfl⟩)
      simp only [rtFind, this, if_false]
      exact rtFind_mem hn.2 e
theorem rtFind_none {z : Nat} : ∀ {T : RT}, z ∉ T.map (·.1) → rtFind z T = none
  | [], _ => rfl
  | (y, s', t') :: r, h => by
    simp only [List.map_cons, List.mem_cons, not_or] at h
    have : y ≠ z := fun e => h.1 e.symm
    simp only [rtFind, this, if_false]
    exact rtFind_none h.2
theorem rtFind_some {z s t : Nat} : ∀ {T : RT}, rtFind z T = some (s, t) → (z, s, t) ∈ T
  | [], h => by cases h
  | (y, s', t') :: r, h => by
    by_cases e : y = z
    · subst e; simp [rtFind] at h; obtain ⟨rfl, rfl⟩ := h; simp
    · simp only [rtFind, e, if_false] at h; exact List.mem_cons_of_mem _ (rtFind_some h)
theorem relT_deep {T : RT} {G : Option Nat} {k : Nat} {p : List Nat} (hp : p ≠ []) {x : Nat × List Nat} (h : relT T G (some (k, p)) = some x) : x.2 ≠ [] := by
  simp only [relT] at h
  split at h
  · cases p with
    | nil => exact absurd rfl hp
    | cons n r => simp at h; subst h; simp
  · split at h
    · cases h
    · cases h; simp

section
variable {c : Ctx} {m : Mem} {g : Key → Value} {q q2 : Wld}

/- An object that is named anew, from an offset on. -/
theorem arr_reloc (hw : q2.w = q.w) {z t off : Nat} {len : Option Nat} {τ : STy} {xs : List (El τ)} {L : Loc} (hL : q.loc z = some L) (hfr : q2.fr t) {n' : Nat} (hn' : n' = (sub xs off len).length)
    (hL2 : q2.loc t = some ⟨L.blk.map fun b => (b.1, b.2 + off * L.sz), n', L.cap - off, L.sz⟩) (h0 : ∀ b, q.lab b = some (z, []) → q2.lab b = some (t, []))
    (h1 : ∀ b n r, q.lab b = some (z, n :: r) → q2.lab b = some (t, (n - off * L.sz) :: r)) (h : arrR q z τ true xs) :
    (∀ v, A0R q v (.ls z off len) → A0R q2 v (.ls t 0 none)) ∧ arrR q2 t τ true (sub xs off len) := by
  subst hn'
  obtain ⟨L', h2, hn, hz, hc, h5⟩ := h
  rw [hL] at h2; cases h2
  refine ⟨fun v hv => ⟨⟨hfr, hv.1.2⟩, fun L' hL' => ?_⟩, ⟨_, hL2, rfl, hz, ?_, ?_⟩⟩
  · rw [hL2] at hL'; cases hL'
    obtain ⟨A, cp, rfl, s1, s2, s3, s4⟩ := hv.2 L hL
    rw [← sub_len hn s3] at s1 ⊢
    refine ⟨A, cp, by simp [lenOf], by simpa [lenOf] using s1, ?_, ⟨Nat.zero_le _, by simp [lenOf]⟩, ?_⟩
    · show 0 + cp ≤ L.cap - off; omega
    · rcases s4 with s4 | ⟨b, o, s5, s6⟩
      · exact .inl s4
      · exact .inr ⟨b, o + off * L.sz, by simp [s5], by simpa using s6⟩
  · show (sub xs off len).length ≤ L.cap - off
    have : (sub xs off len).length ≤ xs.length - off := by cases len <;> simp [sub] <;> omega
    omega
  · rcases h5 with h5 | ⟨b, o', arr, k1, k2, k3, k4, k5⟩
    · exact .inl (by show L.cap - off = 0; omega)
    · by_cases hz0 : L.cap - off = 0
      · exact .inl hz0
      · refine .inr ⟨b, o' + off * L.sz, arr, by simp [k1], h0 b k2, by rw [hw]; exact k3, ?_, fun i e he j' d hd => ?_⟩
        · show o' + off * L.sz + (L.cap - off) * τ.sz ≤ arr.size
          have : off * τ.sz + (L.cap - off) * τ.sz = L.cap * τ.sz := by rw [← Nat.add_mul, Nat.add_sub_cancel' (by omega)]
          rw [hz]; omega
        · obtain ⟨u, hu, hdr⟩ := k5 (off + i) e (sub_arr he) j' d hd
          refine ⟨u, ?_, ?_⟩
          · rw [← hu, hz]; congr 1; rw [Nat.add_mul]; omega
          · refine hdr.carry (fun o o' => ∃ n r, o = some (z, n :: r) ∧ o' = some (t, (n - off * L.sz) :: r)) (fun o o' c ⟨n, r, e1, e2⟩ => by subst e1 e2; exact ⟨n, r ++ [c], rfl, rfl⟩)
              (fun o o' b ⟨n, r, e1, e2⟩ hb => by subst e1 e2; exact ⟨h1 b n r hb, by rw [hw]⟩) ⟨(off + i) * τ.sz + j', [], rfl, ?_⟩
            rw [hz, Nat.add_mul, show off * τ.sz + i * τ.sz + j' - off * τ.sz = i * τ.sz + j' by omega]; rfl

/- 2. The world as the callee is lent it. -/
def szAt (q : Wld) (y : Nat) : Nat := match q.loc y with | some L => L.sz | none => 0
def rtOf (q : Wld) (N : Nat) : List A0 → Nat → RT
  | [], _ => []
  | .ls y off _ :: r, j => (y, off * szAt q y, N + j) :: rtOf q N r (j + 1)
  | .bp x _ :: r, j => (x, 0, N + j) :: rtOf q N r (j + 1)
  | _ :: r, j => rtOf q N r (j + 1)
theorem rtOf_keys {N : Nat} : ∀ {as : List A0} {j : Nat}, (rtOf q N as j).map (·.1) = lkeys as
  | [], _ => rfl
  | a :: r, j => by cases a <;> simp [rtOf, lkeys, rtOf_keys (as := r)]
theorem rtOf_ls {N : Nat} {y off : Nat} {len : Option Nat} : ∀ {as : List A0} {i j : Nat}, as[i]? = some (.ls y off len) → (y, off * szAt q y, N + (j + i)) ∈ rtOf q N as j
  | [], _, _, h => by simp at h
  | a :: r, 0, j, h => by simp at h; subst h; simp [rtOf]
  | a :: r, i + 1, j, h => by
    have := rtOf_ls (N := N) (as := r) (i := i) (j := j + 1) (by simpa using h)
    rw [show j + 1 + i = j + (i + 1) by omega] at this
    cases a <;> simp only [rtOf] <;> first | exact List.mem_cons_of_mem _ this | exact this
theorem rtOf_bp {N : Nat} {x off : Nat} : ∀ {as : List A0} {i j : Nat}, as[i]? = some (.bp x off) → (x, 0, N + (j + i)) ∈ rtOf q N as j
  | [], _, _, h => by simp at h
  | a :: r, 0, j, h => by simp at h; subst h; simp [rtOf]
  | a :: r, i + 1, j, h => by
    have := rtOf_bp (N := N) (as := r) (i := i) (j := j + 1) (by simpa using h)
    rw [show j + 1 + i = j + (i + 1) by omega] at this
    cases a <;> simp only [rtOf] <;> first | exact List.mem_cons_of_mem _ this | exact this

def Wld.lend (q : Wld) (N : Nat) (S : Nat → Prop) (as : List A0) : Wld :=
  { S := fun b => S b ∧ relT (rtOf q N as 0) none (q.lab b) = none
    lab := fun b => relT (rtOf q N as 0) none (q.lab b)
    fr := fun k => N ≤ k ∧ k < N + as.length
    loc := fun k => if N ≤ k then (match as[k - N]? with
      | some (.ls y off len) => (q.loc y).map fun L => ⟨L.blk.map fun b => (b.1, b.2 + off * L.sz), lenOf L off len, L.cap - off, L.sz⟩
      | some (.bp x _) => q.loc x
      | _ => none) else none
    w := q.w }

variable {N : Nat} {S : Nat → Prop} {as : List A0}

theorem lend_rel_ls (hn : (lkeys as).Nodup) {i y off : Nat} {len : Option Nat} (hi : as[i]? = some (.ls y off len)) : rtFind y (rtOf q N as 0) = some (off * szAt q y, N + i) := by
  have := rtOf_ls (q := q) (N := N) (j := 0) hi
  rw [Nat.zero_add] at this
  exact rtFind_mem (by rw [rtOf_keys]; exact hn) this
theorem lend_rel_bp (hn : (lkeys as).Nodup) {i x off : Nat} (hi : as[i]? = some (.bp x off)) : rtFind x (rtOf q N as 0) = some (0, N + i) := by
  have := rtOf_bp (q := q) (N := N) (j := 0) hi
  rw [Nat.zero_add] at this
  exact rtFind_mem (by rw [rtOf_keys]; exact hn) this
theorem lend_ls (hn : (lkeys as).Nodup) {i y off : Nat} {len : Option Nat} (hi : as[i]? = some (.ls y off len)) {τ : STy} {xs : List (El τ)} (h : arrR q y τ true xs) (hv : ∃ v, A0R q v (.ls y off len)) :
    (∀ v, A0R q v (.ls y off len) → A0R (q.lend N S as) v (.ls (N + i) 0 none)) ∧ arrR (q.lend N S as) (N + i) τ true (sub xs off len) := by
  obtain ⟨L, hL, hl, hz, hc, -⟩ := id h
  have hil : i < as.length := (List.getElem?_eq_some_iff.1 hi).1
  have hf := lend_rel_ls (q := q) (N := N) hn hi
  have hs : szAt q y = L.sz := by simp [szAt, hL]
  obtain ⟨v, hv⟩ := hv
  obtain ⟨A, cp, -, -, -, s3, -⟩ := hv.2 L hL
  refine arr_reloc (q := q) (q2 := q.lend N S as) rfl hL ⟨Nat.le_add_right _ _, Nat.add_lt_add_left hil N⟩ (sub_len hl s3).symm ?_ (fun b hb => ?_) (fun b n r hb => ?_) h
  · show (if N ≤ N + i then _ else none) = _
    rw [if_pos (Nat.le_add_right _ _), Nat.add_sub_cancel_left, hi]
    show (q.loc y).map _ = _
    rw [hL]; rfl
  · show relT (rtOf q N as 0) none (q.lab b) = _
    rw [hb]; simp only [relT, hf]
  · show relT (rtOf q N as 0) none (q.lab b) = _
    rw [hb]; simp only [relT, hf, hs]
theorem lend_bp (hn : (lkeys as).Nodup) {i x : Nat} (hi : as[i]? = some (.bp x 0)) {cs : List A0} (h : boxR q x cs) :
    (∀ v, A0R q v (.bp x 0) → A0R (q.lend N S as) v (.bp (N + i) 0)) ∧ ∃ b arr, (q.lend N S as).loc (N + i) = some ⟨some (b, 0), cs.length, cs.length, 1⟩ ∧ (q.lend N S as).lab b = some (N + i, []) ∧ Blk (q.lend N S as).w b arr ∧ cellsR q arr.toList cs := by
  obtain ⟨b, arr, h1, h2, h3, h4⟩ := h
  have hil : i < as.length := (List.getElem?_eq_some_iff.1 hi).1
  have hf := lend_rel_bp (q := q) (N := N) hn hi
  have hloc : (q.lend N S as).loc (N + i) = q.loc x := by
    show (if N ≤ N + i then _ else none) = _
    rw [if_pos (Nat.le_add_right _ _), Nat.add_sub_cancel_left, hi]
  refine ⟨fun v hv => ⟨⟨⟨Nat.le_add_right _ _, Nat.add_lt_add_left hil N⟩, hv.1.2⟩, fun L hL => hv.2 L (hloc ▸ hL)⟩, b, arr, hloc.trans h1, ?_, h3, h4⟩
  show relT (rtOf q N as 0) none (q.lab b) = _
  rw [h2]; simp only [relT, hf]

/- What only is read. -/
theorem s_unlab (hG : Good c m g q) {b : Nat} (h : q.S b) : q.lab b = none := by
  cases hl : q.lab b with
  | none => rfl
  | some y =>
    have h1 := hG.rd b (hG.eS ▸ h)
    exact absurd ((hG.lab b y hl).2 h1.1) h1.2
theorem lend_okb (hG : Good c m g q) (hS : ∀ b, okb q.S q.lab none b → S b) {b : Nat} (hb : okb q.S q.lab none b) : okb (q.lend N S as).S (q.lend N S as).lab none b := by
  cases hr : relT (rtOf q N as 0) none (q.lab b) with
  | none => exact .inl ⟨hS b hb, hr⟩
  | some x =>
    rcases hb with hb | ⟨k, p, hp, hl⟩
    · rw [s_unlab hG hb] at hr; cases hr
    · exact .inr ⟨x.1, x.2, relT_deep hp (by rw [← hr, hl]), hr⟩
theorem lend_dr (hG : Good c m g q) (hS : ∀ b, okb q.S q.lab none b → S b) {v : Value} {d : DV} (h : DR q.S q.lab q.w none v d) : DR (q.lend N S as).S (q.lend N S as).lab (q.lend N S as).w none v d :=
  h.carry (fun o o' => o = .none ∧ o' = .none) (fun o o' c ⟨e1, e2⟩ => by subst e1 e2; exact ⟨rfl, rfl⟩)
    (fun o o' b ⟨e1, e2⟩ hb => by subst e1 e2; exact ⟨lend_okb hG hS hb, rfl⟩) ⟨rfl, rfl⟩
theorem lend_st (hG : Good c m g q) {st : Bool} {v : Value} {d : DV} (h : DR (Sst (lkeys as) st q) (fun _ => none) q.w none v d) :
    DR (q.lend N (Sst (lkeys as) st q) as).S (q.lend N (Sst (lkeys as) st q) as).lab (q.lend N (Sst (lkeys as) st q) as).w none v d :=
  h.carry (fun o o' => o = .none ∧ o' = .none) (fun o o' c ⟨e1, e2⟩ => by subst e1 e2; exact ⟨rfl, rfl⟩)
    (fun o o' b ⟨e1, e2⟩ hb => by
      subst e1 e2
      refine ⟨?_, rfl⟩
      rcases hb with hb | ⟨k, p, -, hb⟩
      · rcases hb with hb | ⟨hst, z, hz, hl⟩
        · exact lend_okb hG (fun _ h => .inl h) hb
        · refine .inl ⟨.inr ⟨hst, z, hz, hl⟩, ?_⟩
          show relT (rtOf q N as 0) none (q.lab b) = none
          rw [hl]
          have : rtFind z (rtOf q N as 0) = none := rtFind_none (by rw [rtOf_keys]; exact hz)
          simp only [relT, this]
      · cases hb) ⟨rfl, rfl⟩

/- The first state of the callee. -/
def Wld.ctx (q : Wld) (P : Program) (N : Nat) (as : List A0) (q0 : Wld) : Ctx :=
  ⟨P, q.w, q0.S, fun b => ∃ x, q0.lab b = some x, N, fun b => okb q0.S q0.lab none b, fun k => if N ≤ k ∧ k < N + as.length then q0.loc k else none⟩
theorem lend_good (hG : Good c m g q) {P : Program} {st : Bool} {m0 : Mem} {g0 : Key → Value} (hlow : ∀ k, k < N → ∃ v, m0 k = .av v ∧ AVR (q.lend N (Sst (lkeys as) st q) as) (g0 k) v)
    (hhigh : ∀ k, N ≤ k → m0 k = cU ∨ ((∀ v, m0 k ≠ .av v) ∧ CR (q.lend N (Sst (lkeys as) st q) as) k (g0 k) (m0 k))) :
    Good (q.ctx P N as (q.lend N (Sst (lkeys as) st q) as)) m0 g0 (q.lend N (Sst (lkeys as) st q) as) where
  eS := rfl
  os := rfl
  tape := rfl
  output := rfl
  size := Nat.le_refl _
  old := fun _ _ _ => rfl
  rd := fun b hb => ⟨sst_lt hG hb.1, fun ⟨x, hx⟩ => by
    have hx : relT (rtOf q N as 0) none (q.lab b) = some x := hx
    rw [hb.2] at hx; cases hx⟩
  lab := fun b x hx => by
    refine ⟨?_, fun _ => ⟨x, hx⟩⟩
    have hx : relT (rtOf q N as 0) none (q.lab b) = some x := hx
    cases hl : q.lab b with
    | none => rw [hl] at hx; cases hx
    | some y => exact (hG.lab b y hl).1
  loc := fun k L hL => by
    have hL : (if N ≤ k then (match as[k - N]? with
      | some (.ls y off len) => (q.loc y).map fun L => ⟨L.blk.map fun b => (b.1, b.2 + off * L.sz), lenOf L off len, L.cap - off, L.sz⟩
      | some (.bp x _) => q.loc x
      | _ => none) else none) = some L := hL
    by_cases hk : N ≤ k
    · refine ⟨⟨hk, ?_⟩, hk⟩
      rw [if_pos hk] at hL
      cases ha : as[k - N]? with
      | none => rw [ha] at hL; cases hL
      | some a =>
        have h1 := (List.getElem?_eq_some_iff.1 ha).1
        exact (Nat.sub_lt_iff_lt_add' hk).1 h1
    · rw [if_neg hk] at hL; cases hL
  low := fun k hk => (hlow k hk).imp fun _ h => h.1
  high := fun k hk v hv => by
    rcases hhigh k hk with e | ⟨e, -⟩
    · rw [e] at hv; cases hv; rfl
    · exact absurd hv (e v)
  mem := fun k => by
    rcases Nat.lt_or_ge k N with hk | hk
    · obtain ⟨v, h1, h2⟩ := hlow k hk
      rw [h1]; exact h2
    · rcases hhigh k hk with e | ⟨-, e⟩
      · rw [e]; trivial
      · exact e
  ini := fun b hb => ⟨hb, rfl⟩
  pin := fun k L hk => by
    have hk : (if N ≤ k ∧ k < N + as.length then (q.lend N (Sst (lkeys as) st q) as).loc k else none) = some L := hk
    by_cases h : N ≤ k ∧ k < N + as.length
    · rw [if_pos h] at hk; exact ⟨h, .inl hk⟩
    · rw [if_neg h] at hk; cases hk
end

end Ai
end Go.Proofs.Ytfjdfbdiichhdaa
