/-
  The abstract interpreter, twenty-third part: a function's contract from a run on deep values. Conditions: as for code; at most four results.
-/
import Derived.Test.YtfjdfbdiichhdaaK22
namespace Go.Proofs.Ytfjdfbdiichhdaa
open Go
namespace Ai

section
variable {c : Ctx} {m : Mem} {g : Key → Value} {q : Wld} {nk : Key} {a : Act} {r : List (Bool × DV)}

theorem finish_ok {E : Env} (hE : TysOK c.P E) {fn : Func} {F : Fn} (hres : resOf E.tys fn.resultTypes.toList = some F.res) (hsz : fn.results.size ≤ 4) (hwr : ∀ b, ¬ c.wr b) {s : St} {w : World} {fr : Key → Prop} (hR : Rel c s.m fr a w) (h : finish E fn s = some r) :
    a.defers = [] ∧ ∃ v, (results fn a.tmps).run c.P w = .ok v w ∧ ∃ q, Outc c.S c.w0 w F r v q := by
  obtain ⟨g, q, hG, hT, rfl, -⟩ := hR
  refine ⟨hT.1, ?_⟩
  obtain ⟨vals, as, ds, h, h1, h2, h3⟩ := resAll_ok hG hT hE hres h
  rw [List.append_nil] at h
  cases hn : nodupB (lsKeys as).reverse with
  | false => simp [hn] at h
  | true =>
  simp only [hn, cond_true, Option.some.injEq] at h
  subst h
  have hn : (lsKeys as).Nodup := by
    have h4 := nodupB_iff.1 hn
    exact (List.pairwise_reverse.1 h4).imp fun h => Ne.symm h
  have hrun : (results fn a.tmps).run c.P q.w = .ok (pack vals) q.w := resultsN hsz h1
  refine ⟨_, hrun, q.fin as ds, ?_⟩
  exact {
    eS := hG.eS, ew := rfl, os := hG.os, tape := hG.tape, output := hG.output, size := hG.size
    old := fun b hb => hG.old b hb (hwr b)
    lab := fun b x hx => by
      have hx : finOwn q as (q.lab b) = some x := hx
      cases hl : q.lab b with
      | none => rw [hl] at hx; cases hx
      | some y =>
        have h5 := hG.lab b y hl
        refine ⟨Nat.le_of_not_lt fun h6 => hwr b (h5.2 h6), h5.1⟩
    res := by
      refine ⟨vals, rfl, comps_tr h2 (Each.of_get (by rw [resAs_len, h3.length]) fun j x y hx hy v hv => ?_)⟩
      rw [resAs_get] at hy
      cases hd : ds[j]? with
      | none => rw [hd] at hy; cases hy
      | some d =>
        obtain ⟨o, d⟩ := d
        rw [hd] at hy
        cases d with
        | sl τ ys =>
          simp only [Option.map_some, Option.some.injEq, Nat.zero_add] at hy
          subst hy
          exact (fin_arr hG h3 hn hd).1 v x hx hv
        | _ =>
          simp only [Option.map_some, Option.some.injEq] at hy
          subst hy
          obtain ⟨x', hx', he⟩ := h3.get hd
          rw [hx] at hx'
          cases hx'
          cases x with
          | d v' => obtain ⟨e1, e2⟩ := he; cases e2; exact dr_scalar e1 hv
          | nil => obtain ⟨τ, e⟩ := he; cases e
          | ls k off len => obtain ⟨τ, own, xs, -, e⟩ := he; cases e
          | _ => exact he.elim
    arr := fun j o τ xs hj => ⟨trivial, (fin_arr hG h3 hn hj).2⟩ }

/- Parameters. -/
theorem each_dr {S : Nat → Prop} {lab : Lab} {w : World} : ∀ {vs : List Value} {ds : List DV}, Each (DR S lab w none) vs ds → ∀ {q : Wld}, q.S = S → q.lab = lab → q.w = w → cellsR q vs (ds.map .d)
  | [], [], _, _, _, _, _ => trivial
  | v :: vs, d :: ds, h, q, h1, h2, h3 => ⟨by subst h1 h2 h3; exact h.1, each_dr h.2 h1 h2 h3⟩
  | [], _ :: _, h, _, _, _, _ => h.elim
  | _ :: _, [], h, _, _, _, _ => h.elim

theorem params_ok {S : Nat → Prop} {w : World} (h1 : q.S = S) (h2 : q.lab = fun _ => none) (h3 : q.w = w) {E : Env} {r : List (Bool × DV)} : ∀ {ts : List TypeId} {j : Nat} {m : Mem} {f : Mem → Res} {gs : List (Bool × List DV)} {vals : List Value} {ars : List (Bool × List CT)},
    arsOf E.tys ts = some ars → gs.map (fun x => (x.1, x.2.length)) = ars.map (fun a => (a.1, a.2.length)) → Each (argR S w) vals gs → params E ts j (gs.flatMap (·.2)) m f = some r →
    ∃ m', f m' = some r ∧ (∀ (k : Nat), (k < j ∨ j + vals.length ≤ k) → m' k = m k) ∧ ∀ (i : Nat) u, vals[i]? = some u → ∃ v, m' (j + i) = .av v ∧ AVR q u v
  | [], j, m, f, gs, vals, ars, ha, hs, hv, h => by
    simp only [arsOf, Option.some.injEq] at ha
    subst ha
    cases gs with
    | cons _ _ => simp at hs
    | nil =>
      cases vals with
      | cons _ _ => exact hv.elim
      | nil => exact ⟨m, by simpa [params] using h, fun _ _ => rfl, fun i u hu => by simp at hu⟩
  | t :: ts, j, m, f, gs, vals, ars, ha, hs, hv, h => by
    simp only [arsOf] at ha
    cases hi : lk t E.tys with
    | none => simp [hi] at ha
    | some i =>
    cases hr : arsOf E.tys ts with
    | none => simp [hi, hr] at ha
    | some ars' =>
    simp only [hi, hr, Option.some.injEq] at ha
    subst ha
    match gs, vals, hv with
    | [], [], _ => simp at hs
    | [], _ :: _, hv => exact hv.elim
    | _ :: _, [], hv => exact hv.elim
    | (b, ds) :: gs, val :: vals, hv =>
      simp only [List.map_cons, List.cons.injEq, Prod.mk.injEq] at hs
      obtain ⟨⟨rfl, hl⟩, hs⟩ := hs
      simp only [params, hi] at h
      have fin : ∀ {v : AV}, AVR q val v → (params E ts (j + 1) (gs.flatMap (·.2)) (upd m j (.av v)) f = some r) → ∃ m', f m' = some r ∧ (∀ (k : Nat), (k < j ∨ j + (val :: vals).length ≤ k) → m' k = m k) ∧ ∀ (i : Nat) u, (val :: vals)[i]? = some u → ∃ v, m' (j + i) = .av v ∧ AVR q u v := by
        intro v hv' h
        obtain ⟨m', p1, p2, p3⟩ := params_ok h1 h2 h3 hr hs hv.2 h
        refine ⟨m', p1, fun k hk => ?_, fun i u hu => ?_⟩
        · have hk' : k < j + 1 ∨ j + 1 + vals.length ≤ k := by simp only [List.length_cons] at hk; omega
          rw [p2 k hk']
          refine upd_ne _ _ fun e => ?_
          have e : k = j := e
          simp only [List.length_cons] at hk
          omega
        · cases i with
          | zero =>
            simp at hu
            subst hu
            exact ⟨v, by rw [p2 _ (.inl (by omega))]; exact upd_same _ _ _, hv'⟩
          | succ i =>
            obtain ⟨v', q1, q2⟩ := p3 i u (by simpa using hu)
            exact ⟨v', by rw [show j + (i + 1) = j + 1 + i by omega]; exact q1, q2⟩
      cases hag : i.agg with
      | true =>
        simp only [hag, cond_true] at h
        have hv1 := hv.1
        rw [hag] at hv1
        obtain ⟨us, hu, hc⟩ := hv1
        simp only [List.flatMap_cons] at h
        rw [← hl, List.drop_left' rfl, List.take_left' rfl] at h
        exact fin (v := .agg (ds.map .d)) ⟨us, hu, each_dr hc h1 h2 h3⟩ h
      | false =>
        simp only [hag, cond_false] at h
        have hv1 := hv.1
        rw [hag] at hv1
        match ds, hv1 with
        | [d], hv1 =>
          simp only [List.flatMap_cons, List.singleton_append] at h
          exact fin (v := .one (.d d)) (by subst h1 h3; show DR q.S q.lab q.w none val d; rw [h2]; exact hv1.1) h
        | [], hv1 => exact hv1.elim
        | _ :: _ :: _, hv1 => exact hv1.2.elim
end

theorem ctr_of_run {P : Program} {f : FuncId} {fn : Func} {code : Code} {F : Fn} (hm : P.follows .mixedOrders = true) (hf : P.funcs[f]? = some fn) (hb : fn.body = some code) (hps : fn.params.size ≤ fn.ntmps) (hsz : fn.results.size ≤ 4)
    (h : ∀ ds out, F.dom ds = true → F.run ds = some out → ∃ E, TysOK P E ∧ FnsOK P E ∧ E.nt = fn.ntmps ∧ arsOf E.tys fn.params.toList = some F.ars ∧ resOf E.tys fn.resultTypes.toList = some F.res ∧ runF E fn ds = some out) : Ctr P f F := by
  intro S w vals gs out hS hargs hsh hdom hrun
  obtain ⟨E, hE, hF, hnt, har, hre, hr⟩ := h _ _ hdom hrun
  let c : Ctx := ⟨P, w, S, fun _ => False, fn.ntmps, fun _ => False, fun _ => none⟩
  let q : Wld := ⟨S, fun _ => none, fun _ => False, fun _ => none, w⟩
  let a : Act := { tmps := vals.toArray ++ Array.replicate (fn.ntmps - vals.toArray.size) undef, defers := [] }
  unfold runF at hr
  rw [hb] at hr
  simp only at hr
  obtain ⟨m, hr, hm1, hm2⟩ := params_ok (q := q) rfl rfl rfl har hsh hargs hr
  have hlen : vals.length ≤ fn.ntmps := by
    have h1 := hargs.length
    have h2 : gs.length = F.ars.length := by have := congrArg List.length hsh; simpa using this
    have h3 : ∀ {ts : List TypeId} {ars}, arsOf E.tys ts = some ars → ars.length = ts.length := by
      intro ts
      induction ts with
      | nil => intro ars h; simp [arsOf] at h; subst h; rfl
      | cons t ts ih =>
        intro ars h
        simp only [arsOf] at h
        split at h
        · rename_i i r _ hr
          cases h
          simp [ih hr]
        · cases h
    have := h3 har
    simp at this
    omega
  have hsize : a.tmps.size = fn.ntmps := by simp [a]; omega
  have hG : Good c m (fun k => a.tmps.getD k undef) q := {
    eS := rfl, os := rfl, tape := rfl, output := rfl, size := Nat.le_refl _, old := fun _ _ _ => rfl
    rd := fun b hb => ⟨hS b hb, fun h => h⟩
    lab := fun b x hx => by cases hx
    loc := fun k L hL => by cases hL
    low := fun k hk => by
      rcases Nat.lt_or_ge k vals.length with h1 | h1
      · obtain ⟨v, h2, -⟩ := hm2 k _ (List.getElem?_eq_getElem h1)
        exact ⟨v, by simpa using h2⟩
      · refine ⟨.one .uv, ?_⟩
        rw [hm1 k (.inr (by simpa using h1)), hnt]
        have : Nat.blt k fn.ntmps = true := by simpa using hk
        simp [this]
    high := fun k hk v hv => by
      have hk : fn.ntmps ≤ k := hk
      rw [hm1 k (.inr (by omega)), hnt] at hv
      have : Nat.blt k fn.ntmps = false := by
        cases hb : Nat.blt k fn.ntmps with
        | false => rfl
        | true => simp at hb; omega
      simp only [this, cond_false] at hv
      cases hv; rfl
    ini := fun b hb => hb.elim
    pin := fun k L hk => by cases hk
    mem := fun k => by
      rcases Nat.lt_or_ge k vals.length with h1 | h1
      · obtain ⟨v, h2, h3⟩ := hm2 k _ (List.getElem?_eq_getElem h1)
        rw [Nat.zero_add] at h2
        rw [h2]
        show AVR q (a.tmps.getD k undef) v
        have : a.tmps.getD k undef = vals[k] := by simp [a, Array.getD_eq_getD_getElem?, Array.getElem?_append, h1]
        rw [this]; exact h3
      · rw [hm1 k (.inr (by simpa using h1))]
        cases hb : Nat.blt k E.nt with
        | false => exact trivial
        | true =>
          show a.tmps.getD k undef = undef
          simp only [a, Array.getD_eq_getD_getElem?, Array.getElem?_append]
          rw [if_neg (by simpa using h1), Array.getElem?_replicate]
          split <;> rfl }
  refine calls_of_wp hf hb ?_
  refine exec_wp (c := c) (r := out) hm hE hF hnt (fun k L h => by cases h) code hr ⟨by show fn.ntmps ≤ E.nt; omega, _, q, hG, ⟨rfl, hsize, fun t _ => rfl⟩, rfl, fun k hk => hk.elim⟩ (fun s' a' w' h1 h2 => ?_) fun e s' a' w' h1 h2 => ?_
  · obtain ⟨h3, v, h4, q', h5⟩ := finish_ok (c := c) hE hre hsz (fun _ h => h) h2.2 h1
    exact ⟨h3, v, h4, v, q', rfl, h5⟩
  · cases e with
    | exit j => cases h1
    | ret =>
      obtain ⟨h3, v, h4, q', h5⟩ := finish_ok (c := c) hE hre hsz (fun _ h => h) h2.2 h1
      exact ⟨h3, v, h4, v, q', rfl, h5⟩

end Ai
end Go.Proofs.Ytfjdfbdiichhdaa
