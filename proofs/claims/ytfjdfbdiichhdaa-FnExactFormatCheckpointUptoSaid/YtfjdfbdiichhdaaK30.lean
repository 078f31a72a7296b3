/-
  The abstract interpreter, thirtieth part: the contract of a function that is lent objects. Conditions: as for code; at most four results.
-/
import Derived.Test.YtfjdfbdiichhdaaK29
namespace Go.Proofs.Ytfjdfbdiichhdaa
open Go
namespace Ai

theorem finishL_ok {c : Ctx} {m2 : Mem} {g2 : Key → Value} {q2 : Wld} {a : Act} {st : Bool} {E : Env} (hE : TysOK c.P E) {fn : Func} {F : FnL} (hres : resOf E.tys fn.resultTypes.toList = some F.res) (hst : F.st = st) (hG2 : Good c m2 g2 q2) (hT : Tmps c g2 a)
    {m0 : Mem} {L : List (A0 × Ent)} {ds : List DV} {les : List LE} (hL : Lent m0 L ds les) (hents : entsOf F.ps = L.map (·.2)) {s : St} (hs : s.m = m2) {r : List (Bool × DV)} (h : finishL E fn F s = some r) :
    ∃ vals asR dsR asL outL us, r = dsR ++ outL ∧ dsR.length = nres F.res ∧ Each (fun val x => (resSem a.tmps x).run c.P q2.w = .ok val q2.w) vals fn.results.toList ∧ Each (compR q2) vals (resSplit F.res asR) ∧ Each (ExpC m2) asR dsR ∧ (∀ x ∈ dsR, x.1 = true) ∧
      FE st m2 E.nt 0 les asL outL us ∧ (lsKeys asR ++ us).Nodup := by
  subst hs hst
  obtain ⟨vals, asR, dsR, h, h1, h2, h3⟩ := resAll_ok hG2 hT hE hres h
  rw [List.append_nil, hents] at h
  obtain ⟨asL, outL, us, h4, h⟩ := lentFin_ok (N := E.nt) (j := 0) hL h
  cases hb : (nodupB (us.reverse ++ (lsKeys asR).reverse) && dsR.all (·.1) && Nat.beq dsR.length (nres F.res)) with
  | false => simp [hb] at h
  | true =>
    simp only [hb, cond_true, Option.some.injEq] at h
    simp only [Bool.and_eq_true, List.all_eq_true] at hb
    refine ⟨vals, asR, dsR, asL, outL, us, h.symm, Nat.eq_of_beq_eq_true hb.2, h1, h2, h3, hb.1.2, h4, ?_⟩
    have h5 := nodupB_iff.1 hb.1.1
    rw [← List.reverse_append] at h5
    exact (List.pairwise_reverse.1 h5).imp fun h => Ne.symm h

theorem fe_len {st : Bool} {m : Mem} {N j : Nat} {les : List LE} {as : List A0} {out : List (Bool × DV)} {us : List Nat} (h : FE st m N j les as out us) : as.length = out.length := by
  induction h with
  | nil => rfl
  | sl _ _ _ _ _ _ _ _ _ _ _ ih => simp [ih]
  | mv _ _ _ _ _ _ _ _ _ _ _ ih => exact ih
  | bx _ _ _ _ _ _ _ _ _ _ _ _ hx _ ih => obtain ⟨x1, x2, -⟩ := lx_len hx; simp [ih, x1, x2]

theorem fnok_of_runL {P : Program} {f : FuncId} {fn : Func} {code : Code} {F : FnL} (hm : P.follows .mixedOrders = true) (hf : P.funcs[f]? = some fn) (hb : fn.body = some code) (hps : F.ps.length ≤ fn.ntmps) (hsz : fn.results.size ≤ 4)
    (h : ∀ ds out, F.dom ds = true → F.run ds = some out → ∃ E, TysOK P E ∧ FnsOK P E ∧ E.nt = fn.ntmps ∧ E.pin = widthOf (entsOf F.ps) ∧ resOf E.tys fn.resultTypes.toList = some F.res ∧ runL E fn F ds = some out) : FnOK P f (callL F) := by
  intro c m g q nk vals args v ws hP hG hfr hN hargs hev
  unfold callL at hev
  cases hsp : splitA args F.ps with
  | none => simp [hsp, RM.ev] at hev
  | some x =>
  obtain ⟨A, Sh, L⟩ := x
  simp only [hsp] at hev
  obtain ⟨hent, hdn⟩ := split_ents hsp
  obtain ⟨es, les, hL, hev⟩ := lendEnts_ev hev
  obtain ⟨hchk, hev⟩ := bifn_ev hev
  have hchk : (nodupB (lkeys (les.flatMap LE.can)) && A.all fun v => v.top.all (notIn (lkeys (les.flatMap LE.can)))) = true := by simpa using hchk
  obtain ⟨hnd, hav⟩ := (Bool.and_eq_true _ _).mp hchk
  generalize has : les.flatMap LE.can = as at hev hnd hav
  have hn : (lkeys as).Nodup := nodupB_iff.1 hnd
  obtain ⟨gs, hsh, hev, hgs⟩ := deepArgs_ev (av := lkeys as) hG (fun a ha z off len hz hmem => by
    have h1 := List.all_eq_true.1 (List.all_eq_true.1 hav a ha) _ hz
    have h2 := List.all_eq_true.1 h1 z hmem
    simp at h2) hev
  obtain ⟨hdom, hev⟩ := grd_ev hev
  cases hrun : F.run (gs.flatMap (·.2) ++ es) with
  | none => simp [hrun, RM.ev] at hev
  | some out =>
  simp only [hrun] at hev
  obtain ⟨h32, hev⟩ := bif_ev hev
  obtain ⟨rfl, rfl⟩ := ret_ev hev
  have h32 : out.length ≤ 32 := by simpa using h32
  obtain ⟨E, hE, hF, hnt, hpin, hre, hr⟩ := h _ _ hdom hrun
  -- the callee's first state
  have hS : ∀ b, okb q.S q.lab none b → Sst (lkeys as) F.st q b := fun _ h => .inl h
  obtain ⟨valsA, hva, hlv, hav2⟩ := avs_ok (q := q) (q0 := q.lend E.nt (Sst (lkeys as) F.st q) as) (SS := Sst (lkeys as) F.st q) (fun v d h => lend_st hG h) hsp hargs
  obtain ⟨hobj, hLV, hw⟩ := lent_ok (N := E.nt) (as := as) (S := Sst (lkeys as) F.st q) hG hS hn hL (pre := []) (by simp [has]) hlv
  simp only [List.length_nil, Nat.add_zero] at hobj hLV
  have hdl : (gs.flatMap (·.2)).length = deepN F.ps := by
    rw [hdn, List.length_flatMap]
    have := congrArg (List.map (fun p : Bool × Nat => p.2)) hsh
    simp only [List.map_map] at this
    exact congrArg List.sum this
  have hAV := hav2 gs E.nt es (hgs valsA hva) hsh hLV
  have hmem : memL E F (gs.flatMap (·.2) ++ es) = upds (setP (avs F.ps E.nt (gs.flatMap (·.2) ++ es)) 0 fun k => bif Nat.blt k E.nt then .av (.one .uv) else cU) (objs E.nt (L.map (·.2)) es) := by
    unfold memL
    rw [hent, List.drop_left' hdl]
  have hvl : vals.length = F.ps.length := by
    have : ∀ {ps : List PS} {k : Nat} {ds : List DV}, (avs ps k ds).length = ps.length := by
      intro ps
      induction ps with
      | nil => intro k ds; rfl
      | cons p ps ih => intro k ds; cases p with
        | dp a ct => cases a <;> simp [avs, ih]
        | en e => simp [avs, ih]
        | cl g es => simp [avs, ih]
    rw [hAV.length, this]
  let a : Act := { tmps := vals.toArray ++ Array.replicate (fn.ntmps - vals.toArray.size) undef, defers := [] }
  have hsize : a.tmps.size = fn.ntmps := by simp [a]; omega
  let q0 := q.lend E.nt (Sst (lkeys as) F.st q) as
  have hG0 : Good (q.ctx P E.nt as q0) (memL E F (gs.flatMap (·.2) ++ es)) (fun k => a.tmps.getD k undef) q0 := by
    refine lend_good hG (fun k hk => ?_) fun k hk => ?_
    · rw [hmem]
      rcases upds_or (k := k) (ws := objs E.nt (L.map (·.2)) es) (m := setP (avs F.ps E.nt (gs.flatMap (·.2) ++ es)) 0 fun k => bif Nat.blt k E.nt then .av (.one .uv) else cU) with ⟨e1, -⟩ | ⟨e, he, e1, -⟩
      · rw [e1]
        rcases Nat.lt_or_ge k vals.length with h1 | h1
        · obtain ⟨x, hx⟩ : ∃ x, (avs F.ps E.nt (gs.flatMap (·.2) ++ es))[k]? = some x := ⟨_, List.getElem?_eq_getElem (by rw [← hAV.length]; exact h1)⟩
          have h2 := setP_at (j := 0) (m := fun k => bif Nat.blt k E.nt then C.av (.one .uv) else cU) hx
          rw [Nat.zero_add] at h2
          obtain ⟨u, hu, hR⟩ := hAV.get hx
          refine ⟨x, h2, ?_⟩
          have : a.tmps.getD k undef = u := by
            rw [List.getElem?_eq_getElem h1] at hu
            cases hu
            simp [a, Array.getD_eq_getD_getElem?, Array.getElem?_append, h1]
          show AVR q0 (a.tmps.getD k undef) x
          rw [this]; exact hR
        · refine ⟨.one .uv, ?_, ?_⟩
          · rw [setP_get (.inr (by rw [← hAV.length]; simpa using h1))]
            have : Nat.blt k E.nt = true := by simpa using hk
            rw [this]; rfl
          · show a.tmps.getD k undef = undef
            simp only [a, Array.getD_eq_getD_getElem?, Array.getElem?_append]
            rw [if_neg (by simpa using h1), Array.getElem?_replicate]
            split <;> rfl
      · exact absurd (hobj e he).1 (by rw [e1]; exact Nat.not_le_of_lt hk)
    · rw [hmem]
      rcases upds_or (k := k) (ws := objs E.nt (L.map (·.2)) es) (m := setP (avs F.ps E.nt (gs.flatMap (·.2) ++ es)) 0 fun k => bif Nat.blt k E.nt then .av (.one .uv) else cU) with ⟨e1, -⟩ | ⟨e, he, e1, e2⟩
      · refine .inl ?_
        rw [e1, setP_get (.inr (by
          have h2 : vals.length ≤ E.nt := by rw [hvl, hnt]; exact hps
          rw [← hAV.length, Nat.zero_add]; exact Nat.le_trans h2 hk))]
        have : Nat.blt k E.nt = false := by
          cases hb : Nat.blt k E.nt with
          | false => rfl
          | true => exact absurd (Nat.le_of_ble_eq_true hb) (Nat.not_le_of_lt (Nat.lt_succ_of_le hk))
        rw [this]; rfl
      · subst e1
        obtain ⟨-, h2, h3⟩ := hobj e he
        exact .inr ⟨fun v => by rw [e2]; exact h2 v, by rw [e2]; exact h3 _⟩
  -- the walk, and what it leaves
  have hfin : ∀ (s' : St) (a' : Act) (w' : World), finishL E fn F s' = some out → At (q.ctx P E.nt as q0) s' a' w' → a'.defers = [] ∧ ∃ v, (results fn a'.tmps).run P w' = .ok v w' ∧ ∃ q', q'.w = w' ∧
      Good c (upds m (resWs nk 0 (out.take (nres F.res)) ++ lentWs nk les (nres F.res) (out.drop (nres F.res)))) g q' ∧ Step q q' ∧ AVR q' v (resAV F.res (resAs nk 0 (out.take (nres F.res)))) ∧ ∀ k, q'.fr k → q.fr k ∨ (nk ≤ k ∧ k < nk + 32) := by
    intro s' a' w' h1 hAt
    obtain ⟨-, g2, q2, hG2, hT, rfl, -⟩ := hAt
    refine ⟨hT.1, ?_⟩
    obtain ⟨rv, asR, dsR, asL, outL, us, rfl, hnr, hsem, hcomp, hexp, hown, hFE, hnod⟩ := finishL_ok (c := q.ctx P E.nt as q0) hE hre rfl hG2 hT hL hent rfl h1
    rw [List.take_left' hnr, List.drop_left' hnr]
    refine ⟨pack rv, resultsN hsz hsem, ?_⟩
    have hlf : Left c m g q P E.nt F.st as s'.m g2 q2 := ⟨hG, hG2, hn⟩
    let T : RT := rtOf q2 nk asR 0 ++ rtL q2 E.nt nk les 0 (nres F.res) asL
    have hT' : (T.map (·.1)).Nodup := by
      simp only [T, List.map_append, rtOf_keys, rtL_keys hFE, exp_keys hexp]; exact hnod
    let qN := q.back q2 (rtOf q E.nt as 0) T nk (asR ++ asL) (dsR ++ outL)
    have hstep : Step q qN := hlf.step hfr
    have hRl : asR.length = nres F.res := by rw [hexp.length]; exact hnr
    have hLl : asL.length = outL.length := fe_len hFE
    have h32' : asR.length + asL.length ≤ 32 := by rw [List.length_append] at h32; rw [hLl, hexp.length]; exact h32
    obtain ⟨hlw, hkeys⟩ := hlf.lent hfr hN hT' hFE (pre := []) (preF := asR) (preO := dsR) (asF := asR ++ asL) (out := dsR ++ outL) (by simp [has]) rfl rfl rfl hexp.length.symm h32'
      (fun e he => List.mem_append_right _ (by rw [hRl] at he; exact he)) (lent_le hL)
    rw [hRl] at hlw hkeys
    have hres : ∀ (i : Nat) o τ xs, dsR[i]? = some (o, .sl τ xs) → o = true ∧ i < 32 ∧ (∀ x v, asR[i]? = some x → A0R q2 v x → A0R qN v (.ls (nk + i) 0 none)) ∧ arrR qN (nk + i) τ true xs := by
      intro i o τ xs hi
      obtain ⟨x, hx, hex⟩ := hexp.get hi
      have hil := (List.getElem?_eq_some_iff.1 hx).1
      have hi32 : i < 32 := by omega
      have ho := hown _ (List.mem_of_getElem? hi)
      subst ho
      have hiF : (asR ++ asL)[i]? = some x := by rw [List.getElem?_append_left hil]; exact hx
      have hiO : (dsR ++ outL)[i]? = some (true, .sl τ xs) := by rw [List.getElem?_append_left (by rw [← hexp.length]; exact hil)]; exact hi
      cases x with
      | nil =>
        obtain ⟨τ', he⟩ := hex
        cases he
        obtain ⟨k1, k2⟩ := back_nil (q := q) (q2 := q2) (T0 := rtOf q E.nt as 0) (T := T) (nk := nk) (asF := asR ++ asL) (out := dsR ++ outL) hiF ⟨true, hiO⟩ hi32
        exact ⟨rfl, hi32, fun x v h4 h5 => by rw [hx] at h4; cases h4; exact k1 v h5, k2⟩
      | ls z off len =>
        obtain ⟨τ', own, zs, hmz, he⟩ := hex
        cases he
        have hcz := hG2.mem z
        rw [hmz] at hcz
        have hmemT : (z, off * szAt q2 z, nk + i) ∈ T := List.mem_append_left _ (by have := rtOf_ls (q := q2) (N := nk) (j := 0) hx; rwa [Nat.zero_add] at this)
        obtain ⟨k1, k2⟩ := back_ls (q := q) (T0 := rtOf q E.nt as 0) (nk := nk) (asF := asR ++ asL) (out := dsR ++ outL) (off := off) (len := len) (zs := zs) hT' hiF ⟨true, hiO⟩ hi32 hcz hmemT
        exact ⟨rfl, hi32, fun x v h4 h5 => by rw [hx] at h4; cases h4; exact k1 v h5, k2⟩
      | d v => obtain ⟨e1, e2⟩ := hex; cases e2; cases e1
      | _ => exact hex.elim
    have hall : ∀ e ∈ resWs nk 0 dsR ++ lentWs nk les (nres F.res) outL, c.N ≤ e.1 ∧ (e.2 = cU ∨ ((∀ v, e.2 ≠ .av v) ∧ ∀ gk, CR qN e.1 gk e.2)) := by
      intro e he
      rcases List.mem_append.1 he with he | he
      · obtain ⟨i, o, τ, xs, h4, rfl⟩ := resWs_mem he
        obtain ⟨ho, -, -, k2⟩ := hres i o τ xs h4
        subst ho
        refine ⟨Nat.le_trans hN (Nat.le_add_right _ _), .inr ⟨fun v => by simp, fun gk => ?_⟩⟩
        show arrR qN (nk + (0 + i)) τ true xs
        rw [Nat.zero_add]; exact k2
      · exact hlw e he
    refine ⟨qN, rfl, ?_, hstep, ?_, fun k hk => hk⟩
    · refine good_change hG hstep hG2.os hG2.tape hG2.output hG2.size (fun b hb hl => hlf.hold hb (by rw [hl]; rfl)) (fun b x hx => ?_) (fun k L hL => ?_) fun k => ?_
      · have hx : (match q2.lab b with
          | some x => relT T (some nk) (some x)
          | none => match relT (rtOf q E.nt as 0) none (q.lab b) with
            | none => q.lab b
            | some _ => none) = some x := hx
        cases hl2 : q2.lab b with
        | some y =>
          refine ⟨(hlf.lab2 hl2).1, fun hb => ?_⟩
          obtain ⟨z, hz⟩ := (hlf.lab2 hl2).2 hb
          cases hl : q.lab b with
          | none => rw [hl] at hz; cases hz
          | some u => exact ⟨u, rfl⟩
        | none =>
          rw [hl2] at hx
          simp only at hx
          split at hx
          · exact ⟨Nat.lt_of_lt_of_le (hG.lab b x hx).1 hG2.size, fun _ => ⟨x, hx⟩⟩
          · cases hx
      · have hL : (if nk ≤ k ∧ k < nk + 32 then (q2.fin (asR ++ asL) (dsR ++ outL)).loc (k - nk) else q.loc k) = some L := hL
        by_cases e : nk ≤ k ∧ k < nk + 32
        · exact ⟨.inr e, Nat.le_trans hN e.1⟩
        · rw [if_neg e] at hL
          exact ⟨.inl (hG.loc k L hL).1, (hG.loc k L hL).2⟩
      · rcases upds_or (k := k) (ws := resWs nk 0 dsR ++ lentWs nk les (nres F.res) outL) (m := m) with ⟨e1, e2⟩ | ⟨e, he, rfl, e2⟩
        · refine .inl ⟨e1, fun hk => ?_⟩
          have hfk : q.fr k := by
            have hc := hG.mem k
            cases hm : m k with
            | av v => exact absurd hm (hk v)
            | box cs => rw [hm] at hc; obtain ⟨b, arr, h1, -⟩ := hc; exact (hG.loc k _ h1).1
            | arr τ o xs => rw [hm] at hc; obtain ⟨L, h1, -⟩ := hc; exact (hG.loc k _ h1).1
            | fz τ xs => rw [hm] at hc; obtain ⟨L, h1, -⟩ := hc; exact (hG.loc k _ h1).1
          have hnl : k ∉ lkeys as := fun hmem => by
            obtain ⟨e, he, h4⟩ := hkeys k (by rw [has]; exact hmem)
            exact e2 e (List.mem_append_right _ he) h4
          have hno : ∀ p, relT (rtOf q E.nt as 0) none (some (k, p)) = none := fun p => by
            have : rtFind k (rtOf q E.nt as 0) = none := rtFind_none (by rw [rtOf_keys]; exact hnl)
            simp only [relT, this]
          refine ⟨if_neg fun e => hfr k e.1 e.2 hfk, fun b p hb => ?_⟩
          have hlt := (hG.lab b _ hb).1
          have hr0 : relT (rtOf q E.nt as 0) none (q.lab b) = none := by rw [hb]; exact hno p
          exact ⟨(hlf.keep hlt hr0).trans hb, hlf.hold hlt hr0⟩
        · obtain ⟨h4, h5⟩ := hall e he
          refine .inr ⟨h4, ?_⟩
          rw [e2]
          rcases h5 with h5 | ⟨h5, h6⟩
          · exact .inl h5
          · exact .inr ⟨h5, h6 _⟩
    · refine resAV_ok (comps_tr hcomp (Each.of_get (by rw [resAs_len, hexp.length]) fun j x y hx hy v hv => ?_))
      rw [resAs_get] at hy
      cases hd : dsR[j]? with
      | none => rw [hd] at hy; cases hy
      | some d =>
        obtain ⟨o, d⟩ := d
        rw [hd] at hy
        cases d with
        | sl τ ys =>
          simp only [Option.map_some, Option.some.injEq, Nat.zero_add] at hy
          subst hy
          exact (hres j o τ ys hd).2.2.1 x v hx hv
        | _ =>
          simp only [Option.map_some, Option.some.injEq] at hy
          subst hy
          obtain ⟨x', hx', he⟩ := hexp.get hd
          rw [hx] at hx'
          cases hx'
          cases x with
          | d v' => obtain ⟨e1, e2⟩ := he; cases e2; exact dr_scalar e1 hv
          | nil => obtain ⟨τ, e⟩ := he; cases e
          | ls k off len => obtain ⟨τ, own, xs, -, e⟩ := he; cases e
          | _ => exact he.elim
  unfold runL at hr
  rw [hb] at hr
  simp only at hr
  refine calls_of_wp hf hb ?_
  have hfresh : ∀ k, q0.fr k → k < E.nt + E.pin := fun k hk => by
    have : as.length = widthOf (L.map (·.2)) := by rw [← has]; exact hw
    rw [hpin, hent, ← this]; exact hk.2
  refine exec_wp (c := q.ctx P E.nt as q0) (r := out) (by exact hm) hE hF rfl (fun k L' h => ?_) code hr ⟨Nat.le_add_right _ _, _, q0, hG0, ⟨rfl, by rw [hsize, ← hnt]; rfl, fun t _ => rfl⟩, rfl, hfresh⟩ (fun s' a' w' h1 h2 => ?_) fun e s' a' w' h1 h2 => ?_
  · have h : (if E.nt ≤ k ∧ k < E.nt + as.length then q0.loc k else none) = some L' := h
    by_cases e : E.nt ≤ k ∧ k < E.nt + as.length
    · exact hfresh k e
    · rw [if_neg e] at h; cases h
  · obtain ⟨h3, v, h4, q', h5, h6⟩ := hfin s' a' w' h1 h2
    exact ⟨h3, v, h4, v, q', rfl, h5, h6⟩
  · cases e with
    | exit j => cases h1
    | ret =>
      obtain ⟨h3, v, h4, q', h5, h6⟩ := hfin s' a' w' h1 h2
      exact ⟨h3, v, h4, v, q', rfl, h5, h6⟩

end Ai
end Go.Proofs.Ytfjdfbdiichhdaa
