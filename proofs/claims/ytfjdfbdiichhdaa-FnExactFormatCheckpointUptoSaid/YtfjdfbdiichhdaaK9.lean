/-
  The abstract interpreter, ninth part: the soundness of the remaining operations that write nothing. Conditions: the table agrees with the program (TysOK).
-/
import Derived.Test.YtfjdfbdiichhdaaK8
import Derived.Laws.BytesString
import Derived.Laws.Strings
namespace Go.Proofs.Ytfjdfbdiichhdaa
open Go
namespace Ai
section
variable {c : Ctx} {m : Mem} {g : Key → Value} {q : Wld} {nk : Key} {a : Act}

theorem unR_does (hG : Good c m g q) {op : UnOp} {x : Value} {xa : AV} (hx : AVR q x xa) {v : AV} {ws : List (Key × C)} (h : (unR op xa).ev m = some (v, ws)) :
    Does c m g q nk v ws ((Op.unary op x).run c.P q.w) := by
  unfold unR at h
  split at h
  · obtain rfl := bool_of hx
    obtain ⟨rfl, rfl⟩ := dv_ev h
    exact Does.pure hG (by simp [Op.unary]) (of_bool _ _)
  · obtain rfl := int_of hx
    obtain ⟨rfl, rfl⟩ := dv_ev h
    exact Does.pure hG (by simp [Op.unary, Op.intArith]) (of_int _ _ _)
  · simp [RM.ev] at h

theorem index_does (hG : Good c m g q) {t : TypeId} {i : TI} (hi : TyOK c.P t i) (hs : i.str = true) {p : Value} {s : Str} (hp : A0R q p (.d (.s s))) {k : IntKind} {n : Int} {v : AV} {ws : List (Key × C)}
    (h : (RM.idx .byte (gets s n) fun e => dv (.i .u8 e)).ev m = some (v, ws)) : Does c m g q nk v ws ((Instr.index t p (.int k n)).run c.P q.w) := by
  obtain rfl := str_of hp
  simp only [RM.ev] at h
  cases hgs : gets s n with
  | none => simp [hgs] at h
  | some e =>
    simp only [hgs, Option.bind_some] at h
    obtain ⟨rfl, rfl⟩ := dv_ev h
    unfold gets at hgs
    cases hg : geti s n with
    | none => simp [hg] at hgs
    | some b =>
      simp [hg] at hgs
      subst hgs
      obtain ⟨h0, h1, h2⟩ := geti_some hg
      refine Does.pure (val := .int .u8 b.toNat) hG ?_ (of_int _ _ _)
      have hx : (⟨s.toArray⟩ : ByteArray)[n.toNat]? = some b := by
        have hlt : n.toNat < (⟨s.toArray⟩ : ByteArray).size := by simpa [ByteArray.size] using h2
        rw [ByteArray.getElem?_lt' _ _ hlt]
        simp only [ByteArray.getElem_eq_getElem_data]
        have := List.getElem?_eq_some_iff.1 h1
        simpa using this.2
      simp [Instr.index, asIntOf, run_underlying (hi.str hs), h0, hx]

theorem min_does (hG : Good c m g q) {t : Array TypeId} {ty : TypeId} {k : IntKind} {x y : Int} {k' : IntKind} {v : AV} {ws : List (Key × C)} (h : (dv (.i k (if y < x then y else x))).ev m = some (v, ws)) :
    Does c m g q nk v ws ((Builtin.min_ t ty #[.int k x, .int k' y]).run c.P q.w) := by
  obtain ⟨rfl, rfl⟩ := dv_ev h
  exact Does.pure hG (by simp [Builtin.min_, Builtin.min2]) (of_int _ _ _)
theorem max_does (hG : Good c m g q) {t : Array TypeId} {ty : TypeId} {k : IntKind} {x y : Int} {k' : IntKind} {v : AV} {ws : List (Key × C)} (h : (dv (.i k (if y > x then y else x))).ev m = some (v, ws)) :
    Does c m g q nk v ws ((Builtin.max_ t ty #[.int k x, .int k' y]).run c.P q.w) := by
  obtain ⟨rfl, rfl⟩ := dv_ev h
  exact Does.pure hG (by simp [Builtin.max_, Builtin.max2]) (of_int _ _ _)

theorem extract_does (hG : Good c m g q) {p : Value} {pa : AV} (hp : AVR q p pa) {n : Nat} {v : AV} {ws : List (Key × C)}
    (h : (match pa with
      | .tup vs => match vs[n]? with
        | some (true, cs) => RM.ret (.agg cs) []
        | some (false, cs) => match cs with | [a] => RM.ret (.one a) [] | _ => .fail
        | none => .fail
      | _ => .fail).ev m = some (v, ws)) : Does c m g q nk v ws ((Instr.extract p n).run c.P q.w) := by
  cases pa with
  | tup vs =>
    simp only at h
    obtain ⟨us, rfl, hus⟩ := hp
    cases hn : vs[n]? with
    | none => simp [hn, RM.ev] at h
    | some x =>
      obtain ⟨u, hu, hc⟩ := Each.get hus hn
      have hu' : us[n]? = some u := by simpa using hu
      have hr : (Instr.extract (.tuple us) n).run c.P q.w = .ok u q.w := by simp [Instr.extract, hu']
      obtain ⟨b, cs⟩ := x
      simp only [hn] at h
      cases b with
      | true =>
        obtain ⟨rfl, rfl⟩ := ret_ev h
        exact Does.pure hG hr hc
      | false =>
        cases cs with
        | nil => simp [RM.ev] at h
        | cons x r =>
          cases r with
          | cons _ _ => simp [RM.ev] at h
          | nil =>
            obtain ⟨rfl, rfl⟩ := ret_ev h
            exact Does.pure hG hr hc.1
  | _ => simp [RM.ev] at h

theorem fold_bytes : ∀ (ns : List Int) (l : List UInt8), ns.foldl (fun (r : ByteArray) n => r.push (UInt8.ofNat n.toNat)) ⟨l.toArray⟩ = ⟨(l ++ toStr ns).toArray⟩
  | [], l => by simp [toStr]
  | n :: ns, l => by
    rw [List.foldl_cons, show (⟨l.toArray⟩ : ByteArray).push (UInt8.ofNat n.toNat) = ⟨(l ++ [UInt8.ofNat n.toNat]).toArray⟩ by simp [ByteArray.push], fold_bytes ns]
    simp [toStr]
theorem run_bytes_str {P : Program} {w : World} {A : Option Addr} {n cp : Nat} {ns : List Int} (hn : n = ns.length)
    (h : ns ≠ [] → ∃ a, A = some a ∧ ∀ (j : Nat) (x : Int), ns[j]? = some x → w.cell? (a.add j) = some (.int .u8 x)) :
    (Conv.bytesToString (.slice A n cp)).run P w = .ok (.string ⟨(toStr ns).toArray⟩) w := by
  subst hn
  by_cases he : ns = []
  · subst he
    cases A with
    | none => simp [Conv.bytesToString, toStr]; rfl
    | some a => rw [List.length_nil, run_bytesToString w a 0 cp [] (by simp [loadCells, loadCellsFrom])]; rfl
  · obtain ⟨a, rfl, hc⟩ := h he
    have hl := run_loadCells_list (P := P) w a (ns.map (Value.int .u8)) (fun j v hj => by
      simp at hj
      obtain ⟨x, hx, rfl⟩ := hj
      exact hc j x hx)
    simp at hl
    rw [run_bytesToString w a ns.length cp ns hl]
    have := fold_bytes ns []
    simp at this
    rw [show ByteArray.empty = ⟨#[]⟩ from rfl, this]

theorem convR_does (hG : Good c m g q) {s t : TypeId} {si ti : TI} (hs : TyOK c.P s si) (ht : TyOK c.P t ti) {p : Value} {pa : AV} (hp : AVR q p pa) {v : AV} {ws : List (Key × C)}
    (h : (convR si ti pa).ev m = some (v, ws)) : Does c m g q nk v ws ((convert s t p).run c.P q.w) := by
  obtain ⟨-, ds, -, -, hus, -⟩ := hs.inf
  obtain ⟨-, dt, -, -, hut, -⟩ := ht.inf
  unfold convR at h
  split at h
  · rename_i k n
    obtain rfl := int_of hp
    cases hk : ti.ik with
    | none => simp [hk, RM.ev] at h
    | some k' =>
      simp only [hk] at h
      obtain ⟨rfl, rfl⟩ := dv_ev h
      have hu := ht.ik k' hk
      exact Does.pure hG (by simp [convert, run_underlying hus, run_underlying hu, Conv.intToInt]) (of_int _ _ _)
  · rename_i l
    obtain rfl := str_of hp
    obtain ⟨hst, h⟩ := bif_ev h
    obtain ⟨rfl, rfl⟩ := dv_ev h
    exact Does.pure hG (by simp [convert, run_underlying hus, run_underlying (ht.str hst)]) (of_str _ _)
  · rename_i x off len
    split at h
    · rename_i y hel
      obtain ⟨hst, h⟩ := bif_ev h
      obtain ⟨ect, ez⟩ := y
      simp only [RM.ev] at h
      obtain ⟨e, hu, ⟨ie, z, h1, h2, h3, h4, h5, h6⟩, hb⟩ := hs.el _ _ _ hel
      cases hm : m x with
      | arr τ own xs =>
        simp only [hm] at h
        cases τ with
        | byte =>
          obtain ⟨rfl, rfl⟩ := dv_ev h
          have hcr := hG.mem x
          rw [hm] at hcr
          obtain ⟨L, hL, hn, hz, hcap, hx⟩ := hcr
          obtain ⟨A, cp, rfl, s1, s2, s3, s4⟩ := hp.2 L hL
          have hsl := sub_len hn s3
          refine Does.pure (val := .string ⟨(toStr (sub xs off len)).toArray⟩) hG ?_ (of_str _ _)
          rw [run_convert_bytes_string q.w s t e A _ cp hu (hb rfl) (ht.str hst)]
          refine run_bytes_str hsl.symm fun hne => ?_
          have hpos : 0 < lenOf L off len := by rw [← hsl]; exact List.length_pos_iff.2 hne
          rcases s4 with s4 | ⟨b, o, s5, rfl⟩
          · omega
          · rcases hx with hx | ⟨b', o', arr, k1, k2, k3, k4, k5⟩
            · omega
            · rw [s5] at k1
              cases k1
              refine ⟨_, rfl, fun j n hj => ?_⟩
              have hget : xs[off + j]? = some n := by
                cases len with
                | none => simpa [sub] using hj
                | some k =>
                  simp only [sub] at hj
                  rw [List.getElem?_take] at hj
                  split at hj
                  · simpa using hj
                  · cases hj
              obtain ⟨u, hu1, hu2⟩ := k5 (off + j) n hget 0 (.i .u8 n) rfl
              have hu2 : DR q.S q.lab q.w none u (.i .u8 n) := drOfEl hu2
              rw [add_lit, k3.cell, hz]
              simp only [STy.sz, Nat.mul_one, Nat.add_zero] at hu1 ⊢
              rw [Nat.add_assoc, hu1]
              cases hu2
              rfl
        | _ => simp [RM.ev] at h
      | _ => simp [hm, RM.ev] at h
    · simp [RM.ev] at h
  · simp [RM.ev] at h
end
end Ai
end Go.Proofs.Ytfjdfbdiichhdaa
