/-
  The abstract interpreter, fifth part: the soundness of the operations that only compute or read. Conditions: the table agrees with the program (TysOK).
-/
import Derived.Test.YtfjdfbdiichhdaaK4
import Derived.Laws.StructEq
namespace Go.Proofs.Ytfjdfbdiichhdaa
open Go
namespace Ai

section
variable {c : Ctx} {m : Mem} {g : Key → Value} {q : Wld} {nk : Key}

theorem run_eqGuard_plain (P : Program) (w : World) (op : BinOp) (t : TypeId) (x y : Operand) (a b : Value) (h : ∀ cs ds, ¬ (a = .agg cs ∧ b = .agg ds)) (hn : a ≠ .nilIface) :
    (eqGuard op t x y a b).run P w = .ok () w := by
  unfold eqGuard
  cases op <;> simp
  all_goals
    split
    · exact absurd rfl hn
    · rename_i cs ds; exact absurd ⟨rfl, rfl⟩ (h cs ds)
    · rfl

theorem eqCells_spec : ∀ {xs ys : List A0} {e : Bool}, eqCells xs ys = some e → ∃ as bs : List Int, xs = as.map (fun n => A0.d (.i .i64 n)) ∧ ys = bs.map (fun n => A0.d (.i .i64 n)) ∧ as.length = bs.length ∧ e = decide (as = bs)
  | [], [], e, h => ⟨[], [], rfl, rfl, rfl, by simp [eqCells] at h; simp [← h]⟩
  | .d a :: xs, .d b :: ys, e, h => by
    simp only [eqCells] at h
    cases he : eqDV a b with
    | none => simp [he] at h
    | some e1 =>
      cases hr : eqCells xs ys with
      | none => simp [he, hr] at h
      | some e2 =>
        simp [he, hr] at h
        obtain ⟨as, bs, rfl, rfl, hl, rfl⟩ := eqCells_spec hr
        unfold eqDV at he
        split at he
        · rename_i n n'
          simp at he
          subst he
          refine ⟨n :: as, n' :: bs, rfl, rfl, by simp [hl], ?_⟩
          rw [← h]
          simp
        · cases he
  | [], .nil :: _, _, h | [], .d _ :: _, _, h | [], .ls _ _ _ :: _, _, h | [], .bp _ _ :: _, _, h | [], .ep _ _ _ :: _, _, h | [], .fp _ :: _, _, h | [], .uv :: _, _, h | [], .und :: _, _, h => by simp [eqCells] at h
  | .nil :: _, _, _, h | .ls _ _ _ :: _, _, _, h | .bp _ _ :: _, _, _, h | .ep _ _ _ :: _, _, _, h | .fp _ :: _, _, _, h | .uv :: _, _, _, h | .und :: _, _, _, h => by simp [eqCells] at h
  | .d _ :: _, [], _, h => by simp [eqCells] at h
  | .d _ :: _, .nil :: _, _, h | .d _ :: _, .ls _ _ _ :: _, _, h | .d _ :: _, .bp _ _ :: _, _, h | .d _ :: _, .ep _ _ _ :: _, _, h | .d _ :: _, .fp _ :: _, _, h | .d _ :: _, .uv :: _, _, h | .d _ :: _, .und :: _, _, h => by simp [eqCells] at h

theorem ints_of {q : Wld} : ∀ {vs : List Value} {as : List Int}, cellsR q vs (as.map fun n => A0.d (.i .i64 n)) → vs = as.map fun n => Value.int .i64 n
  | [], [], _ => rfl
  | [], _ :: _, h => by simp [cellsR, Each] at h
  | _ :: _, [], h => by simp [cellsR, Each] at h
  | v :: vs, n :: as, h => by
    simp only [cellsR, List.map_cons, Each] at h
    rw [List.map_cons, int_of (q := q) h.1, ints_of h.2]

/- A struct of whole numbers, compared. -/
theorem run_part_int {P : Program} {w : World} {t : TypeId} {xs : Array Value} {off : Nat} {v : Value} (ht : P.underlying t = some (.int .i64)) (hx : xs[off]? = some v) :
    (part t xs off).run P w = .ok v w := by
  simp [part, isAgg, run_underlying ht, hx]
theorem run_eqFields (P : Program) (w : World) (d : Nat) (xs ys : Array Value) : ∀ (fs : List Field) (k : Nat) (as bs : List Int), eqkB P fs k = true → as.length = fs.length → bs.length = fs.length →
    (∀ (j : Nat) (n : Int), as[j]? = some n → xs[k + j]? = some (.int .i64 n)) → (∀ (j : Nat) (n : Int), bs[j]? = some n → ys[k + j]? = some (.int .i64 n)) →
    (Op.eqFields (d + 1) xs ys fs).run P w = .ok (decide (as = bs)) w
  | [], k, as, bs, _, ha, hb, _, _ => by
    cases as with
    | nil => cases bs with
      | nil => simp [Op.eqFields]
      | cons _ _ => simp at hb
    | cons _ _ => simp at ha
  | f :: fs, k, as, bs, hf, ha, hb, hxa, hyb => by
    cases as with
    | nil => simp at ha
    | cons x as =>
    cases bs with
    | nil => simp at hb
    | cons y bs =>
    simp only [eqkB, Bool.and_eq_true, beq_iff_eq, bne_iff_ne, ne_eq] at hf
    obtain ⟨⟨⟨h1, h2⟩, h3⟩, h4⟩ := hf
    have ht : P.underlying f.type = some (.int .i64) := by
      revert h3
      split
      · intro _; assumption
      · intro h; cases h
    have hx0 := hxa 0 x rfl
    have hy0 := hyb 0 y rfl
    have ih := run_eqFields P w d xs ys fs (k + 1) as bs h4 (by simpa using ha) (by simpa using hb)
      (fun j n hj => by have := hxa (j + 1) n (by simpa using hj); rwa [show k + 1 + j = k + (j + 1) by omega])
      (fun j n hj => by have := hyb (j + 1) n (by simpa using hj); rwa [show k + 1 + j = k + (j + 1) by omega])
    simp only [Op.eqFields, ne_eq, h2, not_false_eq_true, if_true, Sem.run_bind, run_part_int ht (show xs[f.offset]? = _ by rw [h1]; simpa using hx0),
      run_part_int ht (show ys[f.offset]? = _ by rw [h1]; simpa using hy0), Result.andThen_ok, run_equalIn_int w d f.type .i64 .i64 x y ht]
    by_cases hxy : x = y
    · subst hxy; simp [ih]
    · have : (x == y) = false := by simpa using hxy
      simp [this, hxy]

theorem beqd {α : Type} [BEq α] [LawfulBEq α] [DecidableEq α] (a b : α) : (a == b) = decide (a = b) := by rw [Bool.eq_iff_iff]; simp
theorem toList_bytes (l : List UInt8) : (⟨l.toArray⟩ : ByteArray).toList = l := by rw [ByteArray.toList_eq]
theorem binR_does (hG : Good c m g q) {E : Env} (hE : TysOK c.P E) {op : BinOp} {t : TypeId} {x y : Operand} {a b : Value} {va vb : AV} (ha : AVR q a va) (hb : AVR q b vb) {v : AV} {ws : List (Key × C)}
    (h : (binR E t op va vb).ev m = some (v, ws)) : Does c m g q nk v ws ((do eqGuard op t x y a b; binOp op t a b : Sem Value).run c.P q.w) := by
  unfold binR at h
  split at h
  · rename_i k n k' n'
    obtain rfl := int_of ha
    obtain rfl := int_of hb
    have hq : (eqGuard op t x y (.int k n) (.int k' n')).run c.P q.w = .ok () q.w := run_eqGuard_plain _ _ _ _ _ _ _ _ (fun cs ds ⟨e, _⟩ => by cases e) (by simp)
    simp only [Sem.run_bind, hq, Result.andThen_ok]
    split at h
    · obtain ⟨hp, h⟩ := grd_ev h
      obtain ⟨rfl, rfl⟩ := dv_ev h
      have : ¬ n' < 0 := by simpa using hp
      exact Does.pure hG (by simp [binOp, Op.shift, this, shlI]) (of_int _ _ _)
    · obtain ⟨hp, h⟩ := grd_ev h
      obtain ⟨rfl, rfl⟩ := dv_ev h
      have : ¬ n' < 0 := by simpa using hp
      exact Does.pure hG (by simp [binOp, Op.shift, this, shrI]) (of_int _ _ _)
    · obtain ⟨hk, h2⟩ := bif_ev h
      clear h
      have hk' := kbeq_eq hk
      clear hk
      subst hk'
      exact binInt_does hG ⟨by assumption, by assumption⟩ h2
  · rename_i s s'
    obtain rfl := str_of ha
    obtain rfl := str_of hb
    have hq : (eqGuard op t x y (.string ⟨s.toArray⟩) (.string ⟨s'.toArray⟩)).run c.P q.w = .ok () q.w := run_eqGuard_plain _ _ _ _ _ _ _ _ (fun cs ds ⟨e, _⟩ => by cases e) (by simp)
    simp only [Sem.run_bind, hq, Result.andThen_ok]
    split at h
    · obtain ⟨hl, h⟩ := grd_ev h
      obtain ⟨rfl, rfl⟩ := dv_ev h
      have hl' : s.length + s'.length ≤ 68719476736 := by simpa [lim] using hl
      have hn : ¬ ((s.length + s'.length : Nat) : Int) > IntKind.i64.max := by simp [IntKind.max, IntKind.bits, IntKind.signed]; omega
      refine Does.pure (val := .string ⟨(s ++ s').toArray⟩) hG ?_ (of_str _ _)
      have hsz : ((⟨s.toArray⟩ : ByteArray).size + (⟨s'.toArray⟩ : ByteArray).size : Nat) = s.length + s'.length := by simp [ByteArray.size]
      simp only [binOp, Op.stringOp]
      rw [if_neg (by rw [hsz]; exact hn)]
      simp only [Sem.run_pure]
      congr 2
    · obtain ⟨rfl, rfl⟩ := dv_ev h
      refine Does.pure hG ?_ (of_bool _ _)
      simp [binOp, Op.stringOp, beqd]
    · obtain ⟨rfl, rfl⟩ := dv_ev h
      refine Does.pure hG ?_ (of_bool _ _)
      simp [binOp, Op.stringOp, beqd]
    · simp [RM.ev] at h
  · rename_i b1 b2
    obtain rfl := bool_of ha
    obtain rfl := bool_of hb
    have hq : (eqGuard op t x y (.bool b1) (.bool b2)).run c.P q.w = .ok () q.w := run_eqGuard_plain _ _ _ _ _ _ _ _ (fun cs ds ⟨e, _⟩ => by cases e) (by simp)
    simp only [Sem.run_bind, hq, Result.andThen_ok]
    obtain ⟨i, hi, h⟩ := ty_ev h
    obtain ⟨hbl, h⟩ := bifn_ev h
    have hu := (hE _ _ hi).bl (by simpa using hbl)
    split at h
    · obtain ⟨rfl, rfl⟩ := dv_ev h
      refine Does.pure hG ?_ (of_bool _ _)
      rw [show (binOp .eql t (.bool b1) (.bool b2)) = (do pure (.bool (← Op.equal t (.bool b1) (.bool b2)))) from rfl]
      simp only [Op.equal, Op.maxDepth, Sem.run_bind, run_equalIn_bool' q.w 9999 t b1 b2 hu, Result.andThen_ok, Sem.run_pure, beqd]
    · obtain ⟨rfl, rfl⟩ := dv_ev h
      refine Does.pure hG ?_ (of_bool _ _)
      rw [show (binOp .neq t (.bool b1) (.bool b2)) = (do pure (.bool (!(← Op.equal t (.bool b1) (.bool b2))))) from rfl]
      simp only [Op.equal, Op.maxDepth, Sem.run_bind, run_equalIn_bool' q.w 9999 t b1 b2 hu, Result.andThen_ok, Sem.run_pure, beqd]
    · simp [RM.ev] at h
  · rename_i xs ys
    obtain ⟨i, hi, h⟩ := ty_ev h
    obtain ⟨hq, h⟩ := bifn_ev h
    simp at hq
    obtain ⟨heq, hlen⟩ := hq
    have hlen : xs.length = i.cts.length := hlen
    obtain ⟨fs, hfs, hkb, hsz, hgt, hst⟩ := (hE _ _ hi).eqk heq
    cases he : eqCells xs ys with
    | none => simp [he, RM.ev] at h
    | some e =>
      obtain ⟨as, bs, rfl, rfl, hab, rfl⟩ := eqCells_spec he
      simp only [he] at h
      obtain ⟨va, rfl, hva⟩ := ha
      obtain ⟨vb, rfl, hvb⟩ := hb
      have h1 := ints_of hva
      have h2 := ints_of hvb
      simp at hlen
      have hff : c.P.fieldsOf t = fs := by simp [Program.fieldsOf, hfs]
      have hrun := run_eqFields c.P q.w 9998 va vb fs.toList 0 as bs hkb (by simp; omega) (by simp; omega)
        (fun j n hj => by rw [Nat.zero_add, ← Array.getElem?_toList, h1]; simp [hj])
        (fun j n hj => by rw [Nat.zero_add, ← Array.getElem?_toList, h2]; simp [hj])
      have hq := run_eqGuard_agg (P := c.P) q.w op t x y va vb hgt
      simp only [Sem.run_bind, hq, Result.andThen_ok]
      have hst' := run_equalIn_struct (P := c.P) q.w 9999 t va vb (by rw [hff]; exact hfs) hst
      rw [hff, hrun] at hst'
      split at h
      · obtain ⟨rfl, rfl⟩ := dv_ev h
        exact Does.pure hG (by rw [run_eql_struct, hst']; rfl) (of_bool _ _)
      · obtain ⟨rfl, rfl⟩ := dv_ev h
        exact Does.pure hG (by rw [run_neq_struct, hst']; rfl) (of_bool _ _)
      · simp [RM.ev] at h
  · simp [RM.ev] at h
end

end Ai
end Go.Proofs.Ytfjdfbdiichhdaa
