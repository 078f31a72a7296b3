/-
  The abstract interpreter, seventh part: the soundness of addresses, slicing, lengths and conversions. Conditions: the table agrees with the program (TysOK).
-/
import Derived.Test.YtfjdfbdiichhdaaK6
namespace Go.Proofs.Ytfjdfbdiichhdaa
open Go
namespace Ai
section
variable {c : Ctx} {m : Mem} {g : Key → Value} {q : Wld} {nk : Key} {a : Act}

theorem ep_of {x : Key} {i off : Nat} {τ : STy} {own : Bool} {xs : List (El τ)} {p : Value} (hG : Good c m g q) (hp : A0R q p (.ep x i off)) (hm : m x = .arr τ own xs ∨ m x = .fz τ xs) :
    ∃ b o, p = .pointer (some ⟨b, o + i * τ.sz + off, none⟩) ∧ ∀ L, q.loc x = some L → L.blk = some (b, o) ∧ L.sz = τ.sz := by
  have h := hG.mem x
  rcases hm with hm | hm
  all_goals
    rw [hm] at h
    obtain ⟨L, h1, h2, h3, h4, h5⟩ := h
    obtain ⟨b, o, h6, h7⟩ := hp.2 _ h1
    exact ⟨b, o, by rw [h7, h3], fun L' hL => by rw [h1] at hL; cases hL; exact ⟨h6, h3⟩⟩

theorem fieldR_does (hG : Good c m g q) {t : TypeId} {i : TI} (hi : TyOK c.P t i) {f o n : Nat} (hf : i.flds[f]? = some (o, n)) {p : Value} {pa : A0} (hp : A0R q p pa) {v : AV} {ws : List (Key × C)}
    (h : (fieldR o pa).ev m = some (v, ws)) : Does c m g q nk v ws ((Instr.fieldAt t p f).run c.P q.w) := by
  obtain ⟨fs, hu, hfb⟩ := hi.flds f _ hf
  obtain ⟨fd, ifd, k1, k2, k3, k4, k5⟩ := fldsB_get hfb hf
  have hrun : ∀ b off, (Instr.fieldAt t (.pointer (some ⟨b, off, none⟩)) f).run c.P q.w = .ok (.pointer (some ⟨b, off + o, none⟩)) q.w := by
    intro b off
    have k1' : fs[f]? = some fd := by simpa using k1
    have hz : ¬ ifd.size = 0 := by omega
    simp [Instr.fieldAt, run_underlying hu, k1', Instr.sureAddr, fieldPlace, sizeOf, typeInfo, k3, hz, k2, add_lit]
  cases pa with
  | bp x off =>
    simp only [fieldR, RM.ev] at h
    cases hm : m x with
    | box cs =>
      simp only [hm] at h
      obtain ⟨rfl, rfl⟩ := one_ev h
      obtain ⟨b, arr, rfl, h1, -, -, -⟩ := box_of hG hp hm
      exact Does.pure hG (hrun b off) ⟨⟨hp.1.1, rfl⟩, fun L hL => by rw [h1] at hL; cases hL; exact ⟨b, 0, rfl, by simp⟩⟩
    | _ => simp [hm, RM.ev] at h
  | ep x i off =>
    simp only [fieldR, RM.ev] at h
    cases hm : m x with
    | arr τ own xs =>
      simp only [hm] at h
      obtain ⟨rfl, rfl⟩ := one_ev h
      obtain ⟨b, o', rfl, hl⟩ := ep_of hG hp (.inl hm)
      exact Does.pure hG (hrun b _) ⟨⟨hp.1.1, rfl⟩, fun L hL => ⟨b, o', (hl L hL).1, by rw [(hl L hL).2, Nat.add_assoc]⟩⟩
    | fz τ xs =>
      simp only [hm] at h
      obtain ⟨rfl, rfl⟩ := one_ev h
      obtain ⟨b, o', rfl, hl⟩ := ep_of (own := true) hG hp (.inr hm)
      exact Does.pure hG (hrun b _) ⟨⟨hp.1.1, rfl⟩, fun L hL => ⟨b, o', (hl L hL).1, by rw [(hl L hL).2, Nat.add_assoc]⟩⟩
    | _ => simp [hm, RM.ev] at h
  | fp cs =>
    obtain ⟨rfl, rfl⟩ := one_ev h
    obtain ⟨b, o', rfl, hb, hc⟩ := hp
    refine Does.pure hG (hrun b o') ⟨b, o' + o, rfl, hb, fun j d hj => ?_⟩
    obtain ⟨u, h1, h2⟩ := hc (o + j) d (by rwa [List.getElem?_drop] at hj)
    exact ⟨u, by rw [Nat.add_assoc]; exact h1, h2⟩
  | _ => simp [fieldR, RM.ev] at h

theorem sl_of {τ : STy} {xs : List (El τ)} {v : Value} (h : DR q.S q.lab q.w none v (.sl τ xs)) :
    ∃ A cp, v = .slice A xs.length cp ∧ xs.length ≤ cp ∧ (xs ≠ [] → ∃ b o, A = some ⟨b, o, none⟩ ∧ okb q.S q.lab none b ∧
      ∀ i e, xs[i]? = some e → ∀ j d, (enc τ e)[j]? = some d → ∃ u, q.w.cell? ⟨b, o + i * τ.sz + j, none⟩ = some u ∧ DR q.S q.lab q.w none u d) := by
  cases h with
  | z => exact ⟨_, _, rfl, Nat.zero_le _, fun h => absurd rfl h⟩
  | sl o τ xs b off cp vs hle hb hc hd => exact ⟨_, _, rfl, hle, fun _ => ⟨b, off, rfl, hb, fun i e he j d hj => ⟨vs i j, hc i e he j d hj, hd i e he j d hj⟩⟩⟩

theorem geti_some {α : Type} {xs : List α} {i : Int} {e : α} (h : geti xs i = some e) : 0 ≤ i ∧ xs[i.toNat]? = some e ∧ i.toNat < xs.length := by
  unfold geti at h
  split at h
  · exact ⟨by assumption, h, (List.getElem?_eq_some_iff.1 h).1⟩
  · cases h

theorem run_indexAt {P : Program} {w : World} {t e : TypeId} {ie : TypeInfo} (ht : P.underlying t = some (.slice e)) (he : P.info? e = some ie) {b o n cp : Nat} {k : IntKind} {i : Int} (h0 : 0 ≤ i) (h1 : i.toNat < n) :
    (Instr.indexAt t (.slice (some ⟨b, o, none⟩) n cp) (.int k i)).run P w = .ok (.pointer (some ⟨b, o + i.toNat * ie.size, none⟩)) w := by
  have hlt : i < (n : Int) := by omega
  have hc : (0 ≤ i ∧ i < (n : Int)) := ⟨h0, hlt⟩
  simp [Instr.indexAt, asIntOf, run_underlying ht, hc, sizeOf, typeInfo, he, add_lit]

theorem indexAddrR_does (hG : Good c m g q) {E : Env} (hE : TysOK c.P E) {t : TypeId} {ti : TI} {σ : STy} {ect : List CT} {ez : List A0} (hti : lk t E.tys = some ti) (hel : ti.el = some (σ, ect, ez)) {p : Value} {pa : A0}
    (hp : A0R q p pa) {k : IntKind} {i : Int} {v : AV} {ws : List (Key × C)} (h : (indexAddrR σ pa i).ev m = some (v, ws)) : Does c m g q nk v ws ((Instr.indexAt t p (.int k i)).run c.P q.w) := by
  obtain ⟨e, hu, ⟨ie, z, h1, h2, h3, h4, h5, h6⟩, -⟩ := (hE _ _ hti).el _ _ _ hel
  cases pa with
  | d x =>
    cases x with
    | sl τ xs =>
      obtain ⟨hs, h⟩ := bif_ev h
      have hs : τ.sz = σ.sz := Nat.eq_of_beq_eq_true hs
      simp only [RM.ev] at h
      cases he : geti xs i with
      | none => simp [he] at h
      | some el =>
        simp only [he, Option.bind_some] at h
        obtain ⟨rfl, rfl⟩ := one_ev h
        obtain ⟨i0, i1, i2⟩ := geti_some he
        obtain ⟨A, cp, rfl, hle, hx⟩ := sl_of hp
        obtain ⟨b, o, rfl, hb, hc⟩ := hx (by intro e; subst e; simp at i2)
        refine Does.pure hG (run_indexAt hu h1 i0 i2) ⟨b, o + i.toNat * ie.size, rfl, hb, fun j d hj => ?_⟩
        rw [h2, ← hs]
        exact hc _ _ i1 j d hj
    | _ => simp [indexAddrR, RM.ev] at h
  | ls x off len =>
    simp only [indexAddrR, RM.ev] at h
    have key : ∀ (τ : STy) (own : Bool) (xs : List (El τ)), (m x = .arr τ own xs ∨ m x = .fz τ xs) →
        (bif Nat.beq τ.sz σ.sz then RM.grd (decide (0 ≤ i) && decide (i.toNat < (sub xs off len).length)) (one (.ep x (off + i.toNat) 0)) else .fail).ev m = some (v, ws) →
        Does c m g q nk v ws ((Instr.indexAt t p (.int k i)).run c.P q.w) := by
      intro τ own xs hm h
      obtain ⟨hs, h⟩ := bif_ev h
      have hs : τ.sz = σ.sz := Nat.eq_of_beq_eq_true hs
      obtain ⟨hb, h⟩ := grd_ev h
      obtain ⟨rfl, rfl⟩ := one_ev h
      simp only [Bool.and_eq_true, decide_eq_true_eq] at hb
      have hloc : ∃ L, q.loc x = some L ∧ L.n = xs.length ∧ L.sz = τ.sz := by
        have hc := hG.mem x
        rcases hm with hm | hm <;> rw [hm] at hc <;> obtain ⟨L, a1, a2, a3, _⟩ := hc <;> exact ⟨L, a1, a2, a3⟩
      obtain ⟨L, hL, hn, hz⟩ := hloc
      obtain ⟨A, cp, rfl, s1, s2, s3, s4⟩ := hp.2 L hL
      have hlt : i.toNat < lenOf L off len := by
        cases len with
        | none => simp [sub] at hb; simp [lenOf, hn]; omega
        | some n => simp [sub] at hb; simp [lenOf]; omega
      rcases s4 with s4 | ⟨b, o, s5, rfl⟩
      · omega
      · refine Does.pure hG (run_indexAt hu h1 hb.1 hlt) ⟨⟨hp.1.1, rfl⟩, fun L' hL' => ?_⟩
        rw [hL] at hL'
        cases hL'
        refine ⟨b, o, s5, ?_⟩
        rw [h2, ← hs, hz, Nat.add_mul]
        simp [Nat.add_assoc]
    cases hm : m x with
    | arr τ own xs => simp only [hm] at h; exact key τ own xs (.inl hm) h
    | fz τ xs => simp only [hm] at h; exact key τ true xs (.inr hm) h
    | _ => simp [hm, RM.ev] at h
  | _ => simp [indexAddrR, RM.ev] at h

end
end Ai
end Go.Proofs.Ytfjdfbdiichhdaa
