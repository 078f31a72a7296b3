/-
  The abstract interpreter, eighth part: the soundness of slicing, lengths, conversions and the small operations. Conditions: the table agrees with the program (TysOK).
-/
import Derived.Test.YtfjdfbdiichhdaaK7
namespace Go.Proofs.Ytfjdfbdiichhdaa
open Go
namespace Ai
section
variable {c : Ctx} {m : Mem} {g : Key → Value} {q : Wld} {nk : Key} {a : Act}

def optR (q : Wld) : Option Value → Option AV → Prop
  | none, none => True
  | some v, some x => AVR q v x
  | _, _ => False
theorem optK_ev (hG : Good c m g q) (hT : Tmps c g a) {x : Option Operand} {f : Option AV → RM} {r : AV × List (Key × C)} (h : (optK x f).ev m = some r) :
    ∃ v, optR q (x.map a.eval) v ∧ (f v).ev m = some r := by
  cases x with
  | none => exact ⟨none, trivial, h⟩
  | some x =>
    obtain ⟨v, hv, h⟩ := opd_ev hG hT h
    exact ⟨some v, hv, h⟩

theorem run_sliceBound {P : Program} {w : World} {k : IntKind} {i : Int} {y : Nat} {code : BoundsCode} (h0 : 0 ≤ i) (h1 : i.toNat ≤ y) : (Instr.sliceBound (.int k i) y code).run P w = .ok i.toNat w := by
  have : 0 ≤ i ∧ i ≤ (y : Int) := ⟨h0, by omega⟩
  simp [Instr.sliceBound, asIntOf, this]

theorem bounds_ev {P : Program} {b : Bool} {len cap : Nat} (hlen : len ≤ cap) {lo hi : Option Value} {la ha : Option AV} (hlo : optR q lo la) (hhi : optR q hi ha) {f : Option Nat → Option Nat → RM} {r : AV × List (Key × C)}
    (h : (boundsK len la ha f).ev m = some r) : ∃ l hh, (f l hh).ev m = some r ∧ (Instr.sliceBounds b len cap lo hi none).run P q.w = .ok (l.getD 0, hh.getD len, cap) q.w ∧ l.getD 0 ≤ hh.getD len ∧ hh.getD len ≤ len := by
  cases ha with
  | none =>
    cases hi with
    | some _ => exact hhi.elim
    | none =>
    cases la with
    | none =>
      cases lo with
      | some _ => exact hlo.elim
      | none => exact ⟨none, none, h, by simp [Instr.sliceBounds], by simp, by simp⟩
    | some l =>
      cases lo with
      | none => exact hlo.elim
      | some lv =>
        obtain ⟨k, n, rfl, h⟩ := intK_ev h
        obtain ⟨hb, h⟩ := grd_ev h
        simp only [Bool.and_eq_true, decide_eq_true_eq] at hb
        obtain rfl := int_of hlo
        refine ⟨some n.toNat, none, h, ?_, by simp; omega, by simp⟩
        simp [Instr.sliceBounds, run_sliceBound hb.1 (show n.toNat ≤ len by omega)]
  | some hv =>
    cases hi with
    | none => exact hhi.elim
    | some hv' =>
    obtain ⟨k, n, rfl, h⟩ := intK_ev h
    obtain ⟨hb, h⟩ := grd_ev h
    simp only [Bool.and_eq_true, decide_eq_true_eq] at hb
    obtain rfl := int_of hhi
    have hb1 : ∀ code, (Instr.sliceBound (.int k n) cap code).run P q.w = .ok n.toNat q.w := fun code => run_sliceBound hb.1 (by omega)
    cases la with
    | none =>
      cases lo with
      | some _ => exact hlo.elim
      | none => exact ⟨none, some n.toNat, h, by cases b <;> simp [Instr.sliceBounds, hb1], by simp, by simp; omega⟩
    | some l =>
      cases lo with
      | none => exact hlo.elim
      | some lv =>
        obtain ⟨k', n', rfl, h⟩ := intK_ev h
        obtain ⟨hb', h⟩ := grd_ev h
        simp only [Bool.and_eq_true, decide_eq_true_eq] at hb'
        obtain rfl := int_of hlo
        have hb2 : ∀ code, (Instr.sliceBound (.int k' n') n.toNat code).run P q.w = .ok n'.toNat q.w := fun code => run_sliceBound hb'.1 (by omega)
        exact ⟨some n'.toNat, some n.toNat, h, by cases b <;> simp [Instr.sliceBounds, hb1, hb2], by simp; omega, by simp; omega⟩

theorem cutL_eq {α : Type} (xs : List α) (l h : Option Nat) : cutL xs l h = (xs.take (h.getD xs.length)).drop (l.getD 0) := by
  cases l <;> cases h <;> simp [cutL]

/- Cutting a slice that reads as a list. -/
theorem dr_cut {τ : STy} {xs : List (El τ)} {A : Option Addr} {cp : Nat} (h : DR q.S q.lab q.w none (.slice A xs.length cp) (.sl τ xs)) {l hh : Nat} (h1 : l ≤ hh) (h2 : hh ≤ xs.length) (z : Nat) (hz : z = τ.sz) :
    DR q.S q.lab q.w none (.slice (if cp = l then A else A.map (·.add (l * z))) (hh - l) (cp - l)) (.sl τ ((xs.take hh).drop l)) := by
  subst hz
  have hlen : ((xs.take hh).drop l).length = hh - l := by simp; omega
  obtain ⟨A', cp', e, hle, hx⟩ := sl_of h
  cases e
  by_cases hn : hh - l = 0
  · have : (xs.take hh).drop l = [] := List.eq_nil_of_length_eq_zero (by omega)
    rw [this, hn]
    exact .z _ _ _ _
  · obtain ⟨b, o, rfl, hb, hc⟩ := hx (by intro e; subst e; simp at h2; omega)
    rw [if_neg (by omega), ← hlen]
    simp only [Option.map_some, add_lit]
    have hcell : ∀ i e, ((xs.take hh).drop l)[i]? = some e → ∀ j d, (enc τ e)[j]? = some d → ∃ u, q.w.cell? ⟨b, o + l * τ.sz + i * τ.sz + j, none⟩ = some u ∧ DR q.S q.lab q.w none u d := by
      intro i e he j d hj
      rw [List.getElem?_drop, List.getElem?_take] at he
      split at he
      · obtain ⟨u, hu, hd⟩ := hc (l + i) e he j d hj
        refine ⟨u, ?_, hd⟩
        rw [← hu]
        congr 2
        rw [Nat.add_mul]
        omega
      · cases he
    refine .sl none τ _ b (o + l * τ.sz) _ (fun i j => (q.w.cell? ⟨b, o + l * τ.sz + i * τ.sz + j, none⟩).getD undef) (by rw [hlen]; omega) hb (fun i e he j d hj => ?_) (fun i e he j d hj => ?_)
    · obtain ⟨u, hu, _⟩ := hcell i e he j d hj
      rw [hu]; rfl
    · obtain ⟨u, hu, hd⟩ := hcell i e he j d hj
      rw [hu]; exact hd

theorem sub_len {α : Type} {xs : List α} {L : Loc} {off : Nat} {len : Option Nat} (hn : L.n = xs.length) (h : off ≤ L.n ∧ off + lenOf L off len ≤ L.n) : (sub xs off len).length = lenOf L off len := by
  cases len with
  | none => simp [sub, lenOf, hn]
  | some k => simp [sub, lenOf] at h ⊢; omega

/- The location of an object that is read. -/
theorem loc_of {x : Key} {τ : STy} {own : Bool} {xs : List (El τ)} (hG : Good c m g q) (hm : m x = .arr τ own xs ∨ m x = .fz τ xs) : ∃ L, q.loc x = some L ∧ L.n = xs.length ∧ L.sz = τ.sz ∧ xs.length ≤ L.cap := by
  have hc := hG.mem x
  rcases hm with hm | hm <;> rw [hm] at hc <;> obtain ⟨L, a1, a2, a3, a4, _⟩ := hc <;> exact ⟨L, a1, a2, a3, a4⟩

theorem sliceR_does (hG : Good c m g q) {t : TypeId} {i : TI} (hi : TyOK c.P t i) {p : Value} {pa : A0} (hp : A0R q p pa) {lo hi' : Option Value} {la ha : Option AV} (hlo : optR q lo la) (hhi : optR q hi' ha)
    {v : AV} {ws : List (Key × C)} (h : (sliceR i pa la ha).ev m = some (v, ws)) : Does c m g q nk v ws ((Instr.sliceAt t p lo hi' none).run c.P q.w) := by
  cases pa with
  | d x =>
    cases x with
    | s s =>
      obtain ⟨hs, h⟩ := bif_ev h
      have hu := hi.str hs
      obtain rfl := str_of hp
      obtain ⟨l, hh, h, hrun, h1, h2⟩ := bounds_ev (P := c.P) (b := false) (Nat.le_refl _) hlo hhi h
      obtain ⟨rfl, rfl⟩ := dv_ev h
      refine Does.pure (val := .string ⟨(cutL s l hh).toArray⟩) hG ?_ (of_str _ _)
      have hsz : (⟨s.toArray⟩ : ByteArray).size = s.length := by simp [ByteArray.size]
      simp only [Instr.sliceAt, Instr.slice, Sem.run_bind, run_underlying hu, Result.andThen_ok, hsz, ByteArray.extract_mk]
      simp only [Option.isSome_none, Bool.false_eq_true, if_false, Sem.run_bind, Sem.run_pure, Result.andThen_ok, hrun]
      rw [cutL_eq, List.drop_take]
    | sl τ xs =>
      simp only [sliceR] at h
      cases hel : i.el with
      | none => simp [hel, RM.ev] at h
      | some y =>
        obtain ⟨σ, ect, ez⟩ := y
        simp only [hel] at h
        obtain ⟨hs, h⟩ := bif_ev h
        have hs : τ.sz = σ.sz := Nat.eq_of_beq_eq_true hs
        obtain ⟨e, hu, ⟨ie, z, h1, h2, h3, h4, h5, h6⟩, -⟩ := hi.el _ _ _ hel
        obtain ⟨A, cp, rfl, hle, -⟩ := sl_of hp
        obtain ⟨l, hh, h, hrun, k1, k2⟩ := bounds_ev (P := c.P) (b := true) hle hlo hhi h
        obtain ⟨rfl, rfl⟩ := dv_ev h
        have hcut := dr_cut hp k1 k2 ie.size (by omega)
        refine Does.pure hG ?_ (by rw [cutL_eq]; exact hcut)
        simp only [Instr.sliceAt, Instr.slice, Sem.run_bind, run_underlying hu, Result.andThen_ok, hrun, sizeOf, typeInfo, run_program, h1, Sem.run_pure]
    | _ => simp [sliceR, RM.ev] at h
  | nil =>
    simp only [sliceR] at h
    cases hel : i.el with
    | none => simp [hel, RM.ev] at h
    | some y =>
      obtain ⟨σ, ect, ez⟩ := y
      simp only [hel] at h
      obtain ⟨e, hu, ⟨ie, z, h1, h2, h3, h4, h5, h6⟩, -⟩ := hi.el _ _ _ hel
      obtain rfl : p = .slice none 0 0 := hp
      obtain ⟨l, hh, h, hrun, k1, k2⟩ := bounds_ev (P := c.P) (b := true) (Nat.le_refl 0) hlo hhi h
      obtain ⟨rfl, rfl⟩ := one_ev h
      have h0 : hh.getD 0 = 0 := by omega
      have l0 : l.getD 0 = 0 := by omega
      refine Does.pure (val := .slice none 0 0) hG ?_ rfl
      simp only [Instr.sliceAt, Instr.slice, Sem.run_bind, run_underlying hu, Result.andThen_ok, hrun, sizeOf, typeInfo, run_program, h1, Sem.run_pure, h0, l0]
      rfl
  | ls x off len =>
    simp only [sliceR] at h
    cases hel : i.el with
    | none => simp [hel, RM.ev] at h
    | some y =>
      obtain ⟨σ, ect, ez⟩ := y
      simp only [hel, RM.ev] at h
      obtain ⟨e, hu, ⟨ie, z, h1, h2, h3, h4, h5, h6⟩, -⟩ := hi.el _ _ _ hel
      have key : ∀ (τ : STy) (own : Bool) (xs : List (El τ)), (m x = .arr τ own xs ∨ m x = .fz τ xs) →
          (bif Nat.beq τ.sz σ.sz then boundsK (sub xs off len).length la ha (lsCut x off len) else .fail).ev m = some (v, ws) →
          Does c m g q nk v ws ((Instr.sliceAt t p lo hi' none).run c.P q.w) := by
        intro τ own xs hm h
        obtain ⟨hs, h⟩ := bif_ev h
        have hs : τ.sz = σ.sz := Nat.eq_of_beq_eq_true hs
        obtain ⟨L, hL, hn, hz, hcap⟩ := loc_of hG hm
        obtain ⟨A, cp, rfl, s1, s2, s3, s4⟩ := hp.2 L hL
        have hsl := sub_len hn s3
        obtain ⟨l, hh, h, hrun, k1, k2⟩ := bounds_ev (P := c.P) (b := true) (show (sub xs off len).length ≤ cp by omega) hlo hhi h
        rw [hsl] at hrun k1 k2
        have hr : (Instr.sliceAt t (.slice A (lenOf L off len) cp) lo hi' none).run c.P q.w = .ok (.slice (if cp = l.getD 0 then A else A.map (·.add (l.getD 0 * ie.size))) (hh.getD (lenOf L off len) - l.getD 0) (cp - l.getD 0)) q.w := by
          simp only [Instr.sliceAt, Instr.slice, Sem.run_bind, run_underlying hu, Result.andThen_ok, hrun, sizeOf, typeInfo, run_program, h1, Sem.run_pure]
        have fin : ∀ len', lenOf L (off + l.getD 0) len' = hh.getD (lenOf L off len) - l.getD 0 → Does c m g q nk (.one (.ls x (off + l.getD 0) len')) [] ((Instr.sliceAt t (.slice A (lenOf L off len) cp) lo hi' none).run c.P q.w) := by
          intro len' he
          refine Does.pure hG hr ⟨⟨hp.1.1, rfl⟩, fun L' hL' => ?_⟩
          rw [hL] at hL'
          cases hL'
          refine ⟨_, _, by rw [he], by omega, by omega, ⟨by omega, by omega⟩, ?_⟩
          by_cases hc : cp = l.getD 0
          · exact .inl (by omega)
          · rcases s4 with s4 | ⟨b, o, s5, rfl⟩
            · exact .inl (by omega)
            · refine .inr ⟨b, o, s5, ?_⟩
              rw [if_neg hc, h2, ← hs, ← hz, Nat.add_mul]
              simp [add_lit, Nat.add_assoc]
        unfold lsCut at h
        cases l with
        | none =>
          cases hh with
          | none => obtain ⟨rfl, rfl⟩ := one_ev h; simpa using fin len (by simp)
          | some hN => obtain ⟨rfl, rfl⟩ := one_ev h; simpa using fin (some hN) (by simp [lenOf])
        | some lN =>
          cases hh with
          | none =>
            obtain ⟨rfl, rfl⟩ := one_ev h
            cases len with
            | none => simpa using fin none (by simp [lenOf]; omega)
            | some n => simpa using fin (some (n - lN)) (by simp [lenOf])
          | some hN => obtain ⟨rfl, rfl⟩ := one_ev h; simpa using fin (some (hN - lN)) (by simp [lenOf])
      cases hm : m x with
      | arr τ own xs => simp only [hm] at h; exact key τ own xs (.inl hm) h
      | fz τ xs => simp only [hm] at h; exact key τ true xs (.inr hm) h
      | _ => simp [hm, RM.ev] at h
  | _ => simp [sliceR, RM.ev] at h

theorem lenR_does (hG : Good c m g q) {t ty : TypeId} {i : TI} (hi : TyOK c.P t i) {p : Value} {pa : A0} (hp : A0R q p pa) {v : AV} {ws : List (Key × C)} (h : (lenR i pa).ev m = some (v, ws)) :
    Does c m g q nk v ws ((Builtin.len_ #[t] ty #[p]).run c.P q.w) := by
  have hsl : ∀ σ ect ez, i.el = some (σ, ect, ez) → ∀ A n cp, (Builtin.len_ #[t] ty #[.slice A n cp]).run c.P q.w = .ok (.int .i64 n) q.w := by
    intro σ ect ez hel A n cp
    obtain ⟨e, hu, -⟩ := hi.el _ _ _ hel
    simp [Builtin.len_, run_underlying hu, goInt]
  cases pa with
  | d x =>
    cases x with
    | s s =>
      obtain ⟨hs, h⟩ := bif_ev h
      obtain ⟨rfl, rfl⟩ := dv_ev h
      obtain rfl := str_of hp
      refine Does.pure (val := .int .i64 s.length) hG ?_ (of_int _ _ _)
      have hsz : (⟨s.toArray⟩ : ByteArray).size = s.length := by simp [ByteArray.size]
      have hr : ∀ s0 : ByteArray, (Builtin.len_ #[t] ty #[.string s0]).run c.P q.w = .ok (.int .i64 s0.size) q.w := fun s0 => by
        simp [Builtin.len_, run_underlying (hi.str hs), goInt]
      rw [hr, hsz]
    | sl τ xs =>
      simp only [lenR] at h
      cases hel : i.el with
      | none => simp [hel, RM.ev] at h
      | some y =>
        obtain ⟨σ, ect, ez⟩ := y
        simp only [hel] at h
        obtain ⟨rfl, rfl⟩ := dv_ev h
        obtain ⟨A, cp, rfl, -, -⟩ := sl_of hp
        exact Does.pure hG (hsl _ _ _ hel _ _ _) (of_int _ _ _)
    | _ => simp [lenR, RM.ev] at h
  | nil =>
    simp only [lenR] at h
    cases hel : i.el with
    | none => simp [hel, RM.ev] at h
    | some y =>
      obtain ⟨σ, ect, ez⟩ := y
      simp only [hel] at h
      obtain ⟨rfl, rfl⟩ := dv_ev h
      obtain rfl : p = .slice none 0 0 := hp
      exact Does.pure hG (hsl _ _ _ hel _ _ _) (of_int _ _ _)
  | ls x off len =>
    simp only [lenR] at h
    cases hel : i.el with
    | none => simp [hel, RM.ev] at h
    | some y =>
      obtain ⟨σ, ect, ez⟩ := y
      simp only [hel, RM.ev] at h
      have key : ∀ (τ : STy) (own : Bool) (xs : List (El τ)), (m x = .arr τ own xs ∨ m x = .fz τ xs) → (dv (.i .i64 (sub xs off len).length)).ev m = some (v, ws) → Does c m g q nk v ws ((Builtin.len_ #[t] ty #[p]).run c.P q.w) := by
        intro τ own xs hm h
        obtain ⟨rfl, rfl⟩ := dv_ev h
        obtain ⟨L, hL, hn, hz, hcap⟩ := loc_of hG hm
        obtain ⟨A, cp, rfl, s1, s2, s3, s4⟩ := hp.2 L hL
        rw [sub_len hn s3]
        exact Does.pure hG (hsl _ _ _ hel _ _ _) (of_int _ _ _)
      cases hm : m x with
      | arr τ own xs => simp only [hm] at h; exact key τ own xs (.inl hm) h
      | fz τ xs => simp only [hm] at h; exact key τ true xs (.inr hm) h
      | _ => simp [hm, RM.ev] at h
  | _ => simp [lenR, RM.ev] at h

end
end Ai
end Go.Proofs.Ytfjdfbdiichhdaa
