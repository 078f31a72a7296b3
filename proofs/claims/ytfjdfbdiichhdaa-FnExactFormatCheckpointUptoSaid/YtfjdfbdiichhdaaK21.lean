/-
  The abstract interpreter, twenty-first part: the contract of a function, and its use at a call. Conditions: none beside the contract itself.
-/
import Derived.Test.YtfjdfbdiichhdaaK20
namespace Go.Proofs.Ytfjdfbdiichhdaa
open Go
namespace Ai

def argR (S : Nat → Prop) (w : World) (v : Value) (g : Bool × List DV) : Prop :=
  match g with
  | (true, ds) => ∃ vs : Array Value, v = .agg vs ∧ Each (DR S (fun _ => none) w none) vs.toList ds
  | (false, ds) => Each (DR S (fun _ => none) w none) [v] ds
def pack : List Value → Value
  | [v] => v
  | vs => .tuple vs.toArray

structure Outc (S : Nat → Prop) (w w' : World) (F : Fn) (out : List (Bool × DV)) (val : Value) (q : Wld) : Prop where
  eS : q.S = S
  ew : q.w = w'
  os : w'.os = w.os
  tape : w'.tape = w.tape
  output : w'.output = w.output
  size : w.heap.size ≤ w'.heap.size
  old : ∀ b, b < w.heap.size → w'.heap[b]? = w.heap[b]?
  lab : ∀ b x, q.lab b = some x → w.heap.size ≤ b ∧ b < w'.heap.size
  res : ∃ vals, val = pack vals ∧ Each (compR q) vals (resSplit F.res (resAs 0 0 out))
  arr : ∀ j o τ xs, out[j]? = some (o, .sl τ xs) → q.fr j ∧ arrR q j τ o xs

def Ctr (P : Program) (f : FuncId) (F : Fn) : Prop :=
  ∀ (S : Nat → Prop) (w : World) (vals : List Value) (gs : List (Bool × List DV)) (out : List (Bool × DV)), (∀ b, S b → b < w.heap.size) → Each (argR S w) vals gs →
    gs.map (fun g => (g.1, g.2.length)) = F.ars.map (fun a => (a.1, a.2.length)) → F.dom (gs.flatMap (·.2)) = true → F.run (gs.flatMap (·.2)) = some out →
      Calls P f vals.toArray w fun e w' => ∃ val q, e = .returned val ∧ Outc S w w' F out val q

/- 1. What a call reads. -/
def Sst (av : List Key) (st : Bool) (q : Wld) (b : Nat) : Prop := okb q.S q.lab none b ∨ (st = false ∧ ∃ z, z ∉ av ∧ q.lab b = some (z, []))

section
variable {c : Ctx} {m : Mem} {g : Key → Value} {q : Wld} {nk : Key}

theorem okb_lt (hG : Good c m g q) {o : Own} {b : Nat} (h : okb q.S q.lab o b) : b < q.w.heap.size := by
  cases o with
  | none =>
    rcases h with h | ⟨k, p, -, h⟩
    · exact Nat.lt_of_lt_of_le (hG.rd b (hG.eS ▸ h)).1 hG.size
    · exact (hG.lab b _ h).1
  | some x => exact (hG.lab b _ h).1
theorem dr_st {av : List Key} {st : Bool} {v : Value} {d : DV} (h : DR q.S q.lab q.w none v d) : DR (Sst av st q) (fun _ => none) q.w none v d :=
  h.carry (fun o o' => o = .none ∧ o' = .none) (fun o o' c ⟨h1, h2⟩ => by subst h1 h2; exact ⟨rfl, rfl⟩)
    (fun o o' b ⟨h1, h2⟩ hb => by subst h1 h2; exact ⟨.inl (.inl hb), rfl⟩) ⟨rfl, rfl⟩
theorem sst_lt (hG : Good c m g q) {av : List Key} {st : Bool} {b : Nat} (h : Sst av st q b) : b < q.w.heap.size := by
  rcases h with h | ⟨-, z, -, h⟩
  · exact okb_lt hG h
  · exact (hG.lab b _ h).1

theorem dr_mk {S : Nat → Prop} {lab : Lab} {w : World} {o : Own} {τ : STy} {xs : List (El τ)} {b off cp : Nat} (hle : xs.length ≤ cp) (hb : okb S lab o b)
    (h : ∀ i e, xs[i]? = some e → ∀ j d, (enc τ e)[j]? = some d → ∃ u, w.cell? ⟨b, off + i * τ.sz + j, none⟩ = some u ∧ DR S lab w (ext o (i * τ.sz + j)) u d) : DR S lab w o (.slice (some ⟨b, off, none⟩) xs.length cp) (.sl τ xs) := by
  refine .sl o τ xs b off cp (fun i j => (w.cell? ⟨b, off + i * τ.sz + j, none⟩).getD undef) hle hb (fun i e he j d hj => ?_) fun i e he j d hj => ?_
  · obtain ⟨u, hu, -⟩ := h i e he j d hj
    rw [hu]; rfl
  · obtain ⟨u, hu, hd⟩ := h i e he j d hj
    simp only [hu, Option.getD_some]; exact hd

/- A slice of an object, read deep. -/
theorem ls_deep (hG : Good c m g q) {x off : Nat} {len : Option Nat} {v : Value} (hv : A0R q v (.ls x off len)) {τ : STy} {own : Bool} {xs : List (El τ)} {av : List Key} {st : Bool} (hx : x ∉ av) (hm : (m x = .arr τ own xs ∧ st = false) ∨ m x = .fz τ xs) :
    DR (Sst av st q) (fun _ => none) q.w none v (.sl τ (sub xs off len)) := by
  obtain ⟨L, hL, hn, hz, hcap⟩ := loc_of hG (hm.imp (·.1) id)
  obtain ⟨B, bc, rfl, s1, s2, s3, s4⟩ := hv.2 L hL
  have hsl := sub_len hn s3
  rw [← hsl] at s1 ⊢
  by_cases h0 : sub xs off len = []
  · rw [h0]; exact .z _ _ _ _
  · have hpos : 0 < (sub xs off len).length := List.length_pos_iff.2 h0
    rcases s4 with s4 | ⟨b, o, s5, rfl⟩
    · omega
    · have hcr := hG.mem x
      have hx : Sst av st q b ∧ ∀ i e, (sub xs off len)[i]? = some e → ∀ j d, (enc τ e)[j]? = some d → ∃ u, q.w.cell? ⟨b, o + off * L.sz + i * τ.sz + j, none⟩ = some u ∧ DR (Sst av st q) (fun _ => none) q.w none u d := by
        rcases hm with ⟨hm, hst⟩ | hm
        · rw [hm] at hcr
          obtain ⟨L', hL', -, -, -, hx⟩ := hcr
          rw [hL] at hL'
          cases hL'
          rcases hx with hx | ⟨b', o', arr, k1, k2, k3, k4, k5⟩
          · omega
          · rw [s5] at k1
            cases k1
            refine ⟨?_, fun i e he j d hj => ?_⟩
            · exact .inr ⟨hst, x, hx, k2⟩
            · obtain ⟨u, hu, hd⟩ := k5 (off + i) e (sub_get he) j d hj
              refine ⟨u, ?_, dr_st (drOfEl hd)⟩
              rw [k3.cell, ← hu, hz]
              congr 1
              rw [Nat.add_mul]; omega
        · rw [hm] at hcr
          obtain ⟨L', hL', -, -, -, hx⟩ := hcr
          rw [hL] at hL'
          cases hL'
          rcases hx with hx | hx | ⟨b', o', k1, k2, k3⟩
          · omega
          · subst hx; cases len <;> simp [sub] at hpos
          · rw [s5] at k1
            cases k1
            refine ⟨?_, fun i e he j d hj => ?_⟩
            · exact .inl k2
            · obtain ⟨u, hu, hd⟩ := k3 (off + i) e (sub_get he) j d hj
              refine ⟨u, ?_, dr_st hd⟩
              rw [← hu, hz]
              congr 2
              rw [Nat.add_mul]; omega
      exact dr_mk s1 (.inl hx.1) hx.2

theorem deepCells_ev (hG : Good c m g q) {av : List Key} {st : Bool} {r : AV × List (Key × C)} : ∀ {cs : List A0} {ct : List CT} {f : List DV → RM}, (∀ z off len, A0.ls z off len ∈ cs → z ∉ av) → (deepCells st cs ct f).ev m = some r →
    ∃ ds, ds.length = cs.length ∧ (f ds).ev m = some r ∧ ∀ vs, cellsR q vs cs → Each (DR (Sst av st q) (fun _ => none) q.w none) vs ds
  | [], ct, f, _, h => ⟨[], rfl, by simpa [deepCells] using h, fun vs hv => by cases vs with | nil => trivial | cons _ _ => exact hv.elim⟩
  | a :: cs, ct, f, hav, h => by
    have hav' : ∀ z off len, A0.ls z off len ∈ cs → z ∉ av := fun z off len hz => hav z off len (List.mem_cons_of_mem _ hz)
    have fin : ∀ {d : DV} {ct' : List CT}, (deepCells st cs ct' fun ds => f (d :: ds)).ev m = some r → (∀ v, A0R q v a → DR (Sst av st q) (fun _ => none) q.w none v d) →
        ∃ ds, ds.length = (a :: cs).length ∧ (f ds).ev m = some r ∧ ∀ vs, cellsR q vs (a :: cs) → Each (DR (Sst av st q) (fun _ => none) q.w none) vs ds := by
      intro d ct' h hd
      obtain ⟨ds, h1, h2, h3⟩ := deepCells_ev hG hav' h
      refine ⟨d :: ds, by simp [h1], h2, fun vs hv => ?_⟩
      cases vs with
      | nil => exact hv.elim
      | cons v vs => exact ⟨hd v hv.1, h3 vs hv.2⟩
    cases a with
    | d v => exact fin (by simpa only [deepCells] using h) fun u hu => dr_st hu
    | nil =>
      simp only [deepCells] at h
      split at h
      · exact fin h fun u hu => by rw [show u = _ from hu]; exact .z _ _ _ _
      · simp [RM.ev] at h
    | ls x off len =>
      simp only [deepCells, RM.ev] at h
      cases hm : m x with
      | arr τ own xs =>
        simp only [hm] at h
        cases hst : st with
        | true => subst hst; simp [RM.ev] at h
        | false =>
          subst hst
          simp only [cond_false] at h
          exact fin h fun u hu => ls_deep hG hu (hav _ _ _ (List.mem_cons_self ..)) (.inl ⟨hm, rfl⟩)
      | fz τ xs => simp only [hm] at h; exact fin h fun u hu => ls_deep (own := true) hG hu (hav _ _ _ (List.mem_cons_self ..)) (.inr hm)
      | _ => simp [hm, RM.ev] at h
    | _ => simp [deepCells, RM.ev] at h

def AV.top : AV → List A0
  | .one a => [a]
  | .agg cs => cs
  | _ => []
theorem deepArgs_ev (hG : Good c m g q) {av : List Key} {st : Bool} {r : AV × List (Key × C)} : ∀ {as : List AV} {sh : List (Bool × List CT)} {f : List DV → RM}, (∀ a ∈ as, ∀ z off len, A0.ls z off len ∈ a.top → z ∉ av) → (deepArgs st as sh f).ev m = some r →
    ∃ gs : List (Bool × List DV), gs.map (fun x => (x.1, x.2.length)) = sh.map (fun a => (a.1, a.2.length)) ∧ (f (gs.flatMap (·.2))).ev m = some r ∧ ∀ vs, Each (AVR q) vs as → Each (argR (Sst av st q) q.w) vs gs
  | [], [], f, _, h => ⟨[], rfl, by simpa [deepArgs] using h, fun vs hv => by cases vs with | nil => trivial | cons _ _ => exact hv.elim⟩
  | .agg cs :: as, (true, ct) :: sh, f, hav, h => by
    simp only [deepArgs] at h
    cases hl : Nat.beq cs.length ct.length with
    | false => simp [hl, RM.ev] at h
    | true =>
      simp only [hl, Bool.not_true, cond_false] at h
      obtain ⟨ds, h1, h, h2⟩ := deepCells_ev (av := av) (cs := cs) hG (hav _ (List.mem_cons_self ..)) h
      obtain ⟨gs, h3, h, h4⟩ := deepArgs_ev (av := av) hG (fun a ha => hav a (List.mem_cons_of_mem _ ha)) h
      refine ⟨(true, ds) :: gs, by simp [h1, Nat.eq_of_beq_eq_true hl, h3], by simpa using h, fun vs hv => ?_⟩
      cases vs with
      | nil => exact hv.elim
      | cons v vs =>
        obtain ⟨⟨us, hu, hc⟩, hr⟩ := hv
        exact ⟨⟨us, hu, h2 _ hc⟩, h4 vs hr⟩
  | .one a :: as, (false, [ct]) :: sh, f, hav, h => by
    simp only [deepArgs] at h
    obtain ⟨ds, h1, h, h2⟩ := deepCells_ev (av := av) (cs := [a]) hG (hav _ (List.mem_cons_self ..)) h
    obtain ⟨gs, h3, h, h4⟩ := deepArgs_ev (av := av) hG (fun a ha => hav a (List.mem_cons_of_mem _ ha)) h
    refine ⟨(false, ds) :: gs, by simp [h1, h3], by simpa using h, fun vs hv => ?_⟩
    cases vs with
    | nil => exact hv.elim
    | cons v vs => exact ⟨h2 [v] ⟨hv.1, trivial⟩, h4 vs hv.2⟩
  | [], _ :: _, _, _, h => by simp [deepArgs, RM.ev] at h
  | .agg _ :: _, (false, _) :: _, _, _, h => by simp [deepArgs, RM.ev] at h
  | .agg _ :: _, [], _, _, h => by simp [deepArgs, RM.ev] at h
  | .one _ :: _, (true, _) :: _, _, _, h => by simp [deepArgs, RM.ev] at h
  | .one _ :: _, (false, []) :: _, _, _, h => by simp [deepArgs, RM.ev] at h
  | .one _ :: _, (false, _ :: _ :: _) :: _, _, _, h => by simp [deepArgs, RM.ev] at h
  | .one _ :: _, [], _, _, h => by simp [deepArgs, RM.ev] at h
  | .tup _ :: _, _, _, _, h => by simp [deepArgs, RM.ev] at h
  | .clo _ _ :: _, _, _, _, h => by simp [deepArgs, RM.ev] at h

/- 2. What a call yields. -/
theorem add_one_add {j i : Nat} : j + 1 + i = j + (i + 1) := by omega
theorem key_ne {nk j i : Nat} : nk + j ≠ nk + (j + 1 + i) := by omega
theorem resWs_mem {nk : Key} : ∀ {out : List (Bool × DV)} {j : Nat} {e : Key × C}, e ∈ resWs nk j out → ∃ i o τ xs, out[i]? = some (o, .sl τ xs) ∧ e = (nk + (j + i), .arr τ o xs)
  | [], _, _, h => by simp [resWs] at h
  | (o, d) :: r, j, e, h => by
    have rest : e ∈ resWs nk (j + 1) r → ∃ i o' τ xs, ((o, d) :: r)[i]? = some (o', .sl τ xs) ∧ e = (nk + (j + i), .arr τ o' xs) := fun h => by
      obtain ⟨i, o', τ, xs, h1, h2⟩ := resWs_mem h
      exact ⟨i + 1, o', τ, xs, by simpa using h1, by rw [h2, add_one_add]⟩
    cases d with
    | sl τ xs =>
      simp only [resWs] at h
      rcases List.mem_cons.1 h with e' | e'
      · exact ⟨0, o, τ, xs, rfl, e'⟩
      · exact rest e'
    | _ => simp only [resWs] at h; exact rest h
theorem resWs_nodup {nk : Key} : ∀ {out : List (Bool × DV)} {j : Nat}, nodupB ((resWs nk j out).map (·.1)) = true
  | [], _ => rfl
  | (o, d) :: r, j => by
    cases d with
    | sl τ xs =>
      simp only [resWs, List.map_cons, nodupB, Bool.and_eq_true, List.all_eq_true]
      refine ⟨fun k hk => ?_, resWs_nodup⟩
      obtain ⟨e, he, rfl⟩ := List.mem_map.1 hk
      obtain ⟨i, _, _, _, -, rfl⟩ := resWs_mem he
      have : nk + j ≠ nk + (j + 1 + i) := key_ne
      cases hb : Nat.beq (nk + j) (nk + (j + 1 + i)) with
      | false => rfl
      | true => exact absurd (Nat.eq_of_beq_eq_true hb) this
    | _ => simp only [resWs]; exact resWs_nodup
theorem resWs_get {nk : Key} : ∀ {out : List (Bool × DV)} {j i : Nat} {o : Bool} {τ : STy} {xs : List (El τ)}, out[i]? = some (o, .sl τ xs) → (nk + (j + i), C.arr τ o xs) ∈ resWs nk j out
  | [], _, _, _, _, _, h => by simp at h
  | (o', d) :: r, j, 0, o, τ, xs, h => by
    simp at h
    obtain ⟨rfl, rfl⟩ := h
    simp [resWs]
  | (o', d) :: r, j, i + 1, o, τ, xs, h => by
    have := resWs_get (nk := nk) (out := r) (j := j + 1) (i := i) (by simpa using h)
    rw [show j + 1 + i = j + (i + 1) by omega] at this
    cases d <;> simp only [resWs] <;> first | exact List.mem_cons_of_mem _ this | exact this

theorem resAs_each {T : A0 → A0 → Prop} {nk nk' : Key} : ∀ {out : List (Bool × DV)} {j : Nat}, (∀ i o τ xs, out[i]? = some (o, .sl τ xs) → T (.ls (nk + (j + i)) 0 none) (.ls (nk' + (j + i)) 0 none)) → (∀ d, scalar d = true → T (.d d) (.d d)) → Each T (resAs nk j out) (resAs nk' j out)
  | [], _, _, _ => trivial
  | (o, d) :: r, j, h, hd => by
    have rest : Each T (resAs nk (j + 1) r) (resAs nk' (j + 1) r) := resAs_each (fun i o τ xs hi => by
      have := h (i + 1) o τ xs (by simpa using hi)
      rwa [show j + 1 + i = j + (i + 1) by omega]) hd
    cases d with
    | sl τ xs => exact ⟨h 0 o τ xs rfl, rest⟩
    | b x => exact ⟨hd _ rfl, rest⟩
    | i k n => exact ⟨hd _ rfl, rest⟩
    | s x => exact ⟨hd _ rfl, rest⟩

theorem cells_tr {q' q'' : Wld} : ∀ {vs : List Value} {as as' : List A0}, cellsR q' vs as → Each (fun a a' => ∀ v, A0R q' v a → A0R q'' v a') as as' → cellsR q'' vs as'
  | [], [], [], _, _ => trivial
  | v :: _, _ :: _, _ :: _, h, ht => ⟨ht.1 v h.1, cells_tr h.2 ht.2⟩
  | [], _ :: _, _, h, _ => h.elim
  | _ :: _, [], _, h, _ => h.elim
  | [], [], _ :: _, _, ht => ht.elim
  | _ :: _, _ :: _, [], _, ht => ht.elim
theorem comps_tr {q' q'' : Wld} : ∀ {res : List (Bool × Nat)} {vs : List Value} {as as' : List A0}, Each (compR q') vs (resSplit res as) → Each (fun a a' => ∀ v, A0R q' v a → A0R q'' v a') as as' → Each (compR q'') vs (resSplit res as')
  | [], [], _, _, _, _ => trivial
  | (true, n) :: res, v :: vs, as, as', h, ht => by
    obtain ⟨⟨us, hu, hc⟩, hr⟩ := h
    exact ⟨⟨us, hu, cells_tr hc (Each.take n ht)⟩, comps_tr hr (Each.drop n ht)⟩
  | (false, n) :: res, v :: vs, as, as', h, ht => ⟨cells_tr (vs := [v]) h.1 (Each.take n ht), comps_tr h.2 (Each.drop n ht)⟩
  | [], _ :: _, _, _, h, _ => h.elim
  | (true, _) :: _, [], _, _, h, _ => h.elim
  | (false, _) :: _, [], _, _, h, _ => h.elim

theorem resAV_ok {vals : List Value} {l : List (Bool × List A0)} (h : Each (compR q) vals l) : AVR q (pack vals) (avOf l) := by
  match vals, l, h with
  | [], [], _ => exact ⟨#[], rfl, trivial⟩
  | [v], [(true, x)], h => exact h.1
  | [v], [(false, [a])], h => exact h.1.1
  | [v], [(false, [])], _ => trivial
  | [v], [(false, a :: b :: r)], _ => trivial
  | v :: u :: vs, (true, x) :: y :: r, h => exact ⟨(v :: u :: vs).toArray, rfl, h⟩
  | v :: u :: vs, (false, []) :: y :: r, h => exact ⟨(v :: u :: vs).toArray, rfl, h⟩
  | v :: u :: vs, (false, [a]) :: y :: r, h => exact ⟨(v :: u :: vs).toArray, rfl, h⟩
  | v :: u :: vs, (false, a :: b :: t) :: y :: r, h => exact ⟨(v :: u :: vs).toArray, rfl, h⟩
  | [], _ :: _, h => exact h.elim
  | _ :: _, [], h => exact h.elim
  | [_], _ :: _ :: _, h => exact h.2.elim
  | _ :: _ :: _, [_], h => exact h.2.elim

/- 3. The call. -/
def Wld.called (q q' : Wld) (nk : Key) : Wld :=
  { S := q.S, w := q'.w, fr := fun k => q.fr k ∨ (nk ≤ k ∧ k < nk + 32),
    lab := fun b => match q.lab b with
      | some x => some x
      | none => match q'.lab b with
        | some (k, p) => some (nk + k, p)
        | none => none
    loc := fun k => if nk ≤ k ∧ k < nk + 32 then q'.loc (k - nk) else q.loc k }

theorem fn_ok {P : Program} {f : FuncId} {F : Fn} (hC : Ctr P f F) : FnOK P f (callFn F) := by
  intro c m g q nk vals args v ws hP hG hf hN hargs h
  obtain ⟨gs, hsh, h, hgs⟩ := deepArgs_ev (av := []) hG (fun _ _ _ _ _ _ => by simp) h
  simp only [RM.ev] at h
  cases hdom : F.dom (gs.flatMap (·.2)) with
  | false => simp [hdom] at h
  | true =>
  simp only [hdom, cond_true] at h
  cases hrun : F.run (gs.flatMap (·.2)) with
  | none => simp [hrun, RM.ev] at h
  | some out =>
  simp only [hrun] at h
  cases hout : (Nat.ble out.length 32 && (F.st || out.all (·.1))) with
  | false => simp [hout, RM.ev] at h
  | true =>
  simp only [hout, cond_true] at h
  obtain ⟨rfl, rfl⟩ := ret_ev h
  obtain ⟨ho1, ho2⟩ := (Bool.and_eq_true _ _).mp hout
  have ho1 : out.length ≤ 32 := by simpa using ho1
  refine (hC (Sst [] F.st q) q.w vals gs out (fun b hb => ?_) (hgs vals hargs) hsh hdom hrun).mono fun e w' ⟨val, q', he, O⟩ => ?_
  · exact sst_lt hG hb
  have hw : q'.w = w' := O.ew
  have hqs : q'.S = Sst [] F.st q := O.eS
  have hold : ∀ b, b < q.w.heap.size → q'.w.heap[b]? = q.w.heap[b]? := fun b hb => by rw [hw]; exact O.old b hb
  have hsize : q.w.heap.size ≤ q'.w.heap.size := by rw [hw]; exact O.size
  have hlab : ∀ b x, q.lab b = some x → (q.called q' nk).lab b = some x := fun b x hx => by simp [Wld.called, hx]
  have hlab' : ∀ b k p, q'.lab b = some (k, p) → (q.called q' nk).lab b = some (nk + k, p) := fun b k p hx => by
    have h1 : q.lab b = none := by
      cases hl : q.lab b with
      | none => rfl
      | some y =>
        have h2 := (hG.lab b y hl).1
        have h3 := (O.lab b _ hx).1
        omega
    simp [Wld.called, h1, hx]
  have hs : Step q (q.called q' nk) := ⟨rfl, fun k h => .inl h, fun k hk => .inl (if_neg fun ⟨h1, h2⟩ => hf k h1 h2 hk), fun b hb => by
    refine ⟨?_, hold b (okb_lt hG hb)⟩
    rcases hb with hb | ⟨k, p, h1, h2⟩
    · exact .inl hb
    · exact .inr ⟨k, p, h1, hlab b _ h2⟩⟩
  have harr : ∀ (i : Nat) o τ xs, out[i]? = some (o, .sl τ xs) → i < 32 ∧ arrR (q.called q' nk) (nk + i) τ o xs := by
    intro i o τ xs hi
    have hi32 : i < 32 := by
      have := (List.getElem?_eq_some_iff.1 hi).1
      omega
    refine ⟨hi32, ?_⟩
    obtain ⟨-, L, h1, h2, h3, h4, h5⟩ := O.arr i o τ xs hi
    refine ⟨L, ?_, h2, h3, h4, ?_⟩
    · show (if nk ≤ nk + i ∧ nk + i < nk + 32 then q'.loc (nk + i - nk) else q.loc (nk + i)) = _
      rw [if_pos ⟨Nat.le_add_right _ _, Nat.add_lt_add_left hi32 nk⟩, Nat.add_sub_cancel_left]; exact h1
    · rcases h5 with h5 | ⟨b, o', arr, k1, k2, k3, k4, k5⟩
      · exact .inl h5
      · refine .inr ⟨b, o', arr, k1, hlab' b i [] k2, k3, k4, fun i' x hx j d hj => ?_⟩
        obtain ⟨u, hu, hd⟩ := k5 i' x hx j d hj
        refine ⟨u, hu, ?_⟩
        cases o with
        | true =>
          exact hd.carry (fun o o' => ∃ p, o = some (i, p) ∧ o' = some (nk + i, p)) (fun o o' c ⟨p, e1, e2⟩ => by subst e1 e2; exact ⟨p ++ [c], rfl, rfl⟩)
            (fun o o' b ⟨p, e1, e2⟩ hb => by subst e1 e2; exact ⟨hlab' b i p hb, rfl⟩) ⟨_, rfl, rfl⟩
        | false =>
          have hst : F.st = true := by
            cases hst : F.st with
            | true => rfl
            | false =>
              rw [hst, Bool.false_or, List.all_eq_true] at ho2
              have := ho2 _ (List.mem_of_getElem? hi)
              simp at this
          exact hd.carry (fun o o' => o = .none ∧ o' = .none) (fun o o' c ⟨e1, e2⟩ => by subst e1 e2; exact ⟨rfl, rfl⟩)
            (fun o o' b ⟨e1, e2⟩ hb => by
              subst e1 e2
              refine ⟨?_, rfl⟩
              rcases hb with hb | ⟨k, p, p1, p2⟩
              · rw [hqs] at hb
                rcases hb with hb | ⟨hb, -⟩
                · exact (hs.okn b hb).1
                · rw [hst] at hb; cases hb
              · exact .inr ⟨nk + k, p, p1, hlab' b k p p2⟩) ⟨rfl, rfl⟩
  obtain ⟨us, rfl, hus⟩ := O.res
  refine ⟨_, q.called q' nk, he, hw, ?_, hs, ?_, fun k hk => hk⟩
  · refine good_change hG hs ?_ ?_ ?_ hsize (fun b hb _ => hold b hb) (fun b x hx => ?_) (fun k L hL => ?_) fun k => ?_
    · show q'.w.os = _; rw [hw]; exact O.os
    · show q'.w.tape = _; rw [hw]; exact O.tape
    · show q'.w.output = _; rw [hw]; exact O.output
    · cases hl : q.lab b with
      | some y => exact ⟨Nat.lt_of_lt_of_le (hG.lab b y hl).1 hsize, fun _ => ⟨y, rfl⟩⟩
      | none =>
        have hx : (match q.lab b with | some x => some x | none => match q'.lab b with | some (k, p) => some (nk + k, p) | none => none) = some x := hx
        rw [hl] at hx
        cases hl' : q'.lab b with
        | none => rw [hl'] at hx; simp at hx
        | some y =>
          have := O.lab b y hl'
          refine ⟨?_, fun hb => ?_⟩
          · show b < q'.w.heap.size
            rw [hw]; exact this.2
          · omega
    · have hL : (if nk ≤ k ∧ k < nk + 32 then q'.loc (k - nk) else q.loc k) = some L := hL
      by_cases e : nk ≤ k ∧ k < nk + 32
      · exact ⟨.inr e, Nat.le_trans hN e.1⟩
      · rw [if_neg e] at hL
        exact ⟨.inl (hG.loc k L hL).1, (hG.loc k L hL).2⟩
    · by_cases hx : ∃ e ∈ resWs nk 0 out, e.1 = k
      · obtain ⟨e, he, rfl⟩ := hx
        obtain ⟨i, o, τ, xs, h1, rfl⟩ := resWs_mem he
        have hm := upds_mem (m := m) resWs_nodup he
        refine .inr ⟨Nat.le_trans hN (Nat.le_add_right _ _), .inr ⟨fun v hv => ?_, ?_⟩⟩
        · rw [hm] at hv; cases hv
        · rw [hm]
          have := (harr i o τ xs h1).2
          show arrR (q.called q' nk) (nk + (0 + i)) τ o xs
          rw [Nat.zero_add]; exact this
      · refine .inl ⟨upds_not fun e he hh => hx ⟨e, he, hh⟩, fun hk => ⟨if_neg fun e => ?_, fun b p hb => ⟨hlab b _ hb, hold b (hG.lab b _ hb).1⟩⟩⟩
        have hc := hG.mem k
        have hfr : q.fr k := by
          cases hm : m k with
          | av v => exact absurd hm (hk v)
          | box cs => rw [hm] at hc; obtain ⟨b, arr, h1, -⟩ := hc; exact (hG.loc k _ h1).1
          | arr τ o xs => rw [hm] at hc; obtain ⟨L, h1, -⟩ := hc; exact (hG.loc k _ h1).1
          | fz τ xs => rw [hm] at hc; obtain ⟨L, h1, -⟩ := hc; exact (hG.loc k _ h1).1
        exact hf k e.1 e.2 hfr
  ·
    refine resAV_ok (comps_tr hus (resAs_each (fun i o τ xs hi => ?_) fun d hd v hv => ?_))
    · intro v hv
      obtain ⟨hi32, L, h1, -⟩ := harr i o τ xs hi
      have hv : (q'.fr (0 + (0 + i)) ∧ v.oneCell' = true) ∧ ∀ L, q'.loc (0 + (0 + i)) = some L → SlOK L 0 none v := hv
      simp only [Nat.zero_add] at hv ⊢
      refine ⟨⟨.inr ⟨Nat.le_add_right _ _, Nat.add_lt_add_left hi32 nk⟩, hv.1.2⟩, fun L' hL' => hv.2 L' ?_⟩
      have hL' : (if nk ≤ nk + i ∧ nk + i < nk + 32 then q'.loc (nk + i - nk) else q.loc (nk + i)) = some L' := hL'
      rwa [if_pos ⟨Nat.le_add_right _ _, Nat.add_lt_add_left hi32 nk⟩, Nat.add_sub_cancel_left] at hL'
    · exact dr_scalar hd hv
end

end Ai
end Go.Proofs.Ytfjdfbdiichhdaa
