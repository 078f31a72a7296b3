/-
  The abstract interpreter, fifteenth part: the soundness of append. Conditions: the table agrees with the program (TysOK).
-/
import Derived.Test.YtfjdfbdiichhdaaK14
namespace Go.Proofs.Ytfjdfbdiichhdaa
open Go
namespace Ai

/- 1. What append does in the model, whatever the capacity. -/
theorem run_firstCells {P : Program} {w : World} {size n : Nat} {B : Option Addr} {bc : Nat} {news : List Value} (hl : news.length = n * size)
    (hB : ∀ (j : Nat) u, news[j]? = some u → ∃ a, B = some a ∧ w.cell? (a.add j) = some u) : (Builtin.firstCells size n (.slice B n bc)).run P w = .ok news.toArray w := by
  cases B with
  | none =>
    cases news with
    | nil => simp [Builtin.firstCells]
    | cons u r => obtain ⟨a, h, _⟩ := hB 0 u rfl; cases h
  | some a =>
    simp only [Builtin.firstCells]
    rw [← hl]
    exact run_loadCells_list w a news fun j v hj => by
      obtain ⟨a', h, hc⟩ := hB j v hj
      cases h
      exact hc
section
variable {P : Program} {w : World} {t t' ty e e' : TypeId} {ie : TypeInfo} {z : Value} (ht : P.underlying t = some (.slice e)) (ht' : P.underlying t' = some (.slice e')) (hi : P.info? e = some ie) (hz : ie.zero = some z)
  {A B : Option Addr} {sLen sCap n bc : Nat} {news : List Value} (hl : news.length = n * ie.size) (hB : ∀ (j : Nat) u, news[j]? = some u → ∃ a, B = some a ∧ w.cell? (a.add j) = some u)
include ht ht' hi hl hB
theorem run_append_room' (hroom : sLen + n ≤ sCap) {w' : World} (hst : ∀ a, A = some a → (storeCells (a.add (sLen * ie.size)) news).run P w = .ok () w') (hno : A = none → w' = w) :
    (Builtin.append_ #[t, t'] ty #[.slice A sLen sCap, .slice B n bc]).run P w = .ok (.slice A (sLen + n) sCap) w' := by
  have hf := run_firstCells (P := P) (bc := bc) hl hB
  cases A with
  | none => simp [Builtin.append_, run_underlying ht, run_underlying ht', sizeOf, typeInfo, hi, Builtin.lenOf, hroom, hf, hno rfl]
  | some a => simp [Builtin.append_, run_underlying ht, run_underlying ht', sizeOf, typeInfo, hi, Builtin.lenOf, hroom, hf, hst a rfl]
include hz
theorem run_append_grow' {olds : List Value} (hlo : olds.length = sLen * ie.size) (hA : ∀ (j : Nat) u, olds[j]? = some u → ∃ a, A = some a ∧ w.cell? (a.add j) = some u)
    (hg : sCap < sLen + n) (h63 : ((sLen + n : Nat) : Int) ≤ 9223372036854775807) (hfit : Builtin.nextslicecap (sLen + n) sCap * ie.bytes ≤ 281474976710656) :
    (Builtin.append_ #[t, t'] ty #[.slice A sLen sCap, .slice B n bc]).run P w =
      .ok (.slice (some ⟨w.heap.size, 0, none⟩) (sLen + n) (grownCap w (sLen + n) sCap e))
        (w.drew.alloc (.cells (olds.toArray ++ news.toArray ++ Builtin.zeroCells z.cells (grownCap w (sLen + n) sCap e - (sLen + n))) e)) := by
  have hn : ¬ (sLen + n ≤ sCap) := by omega
  have h63' : ¬ (9223372036854775807 < ((sLen : Int) + (n : Int))) := by omega
  have h48' : ¬ (281474976710656 < Builtin.nextslicecap (sLen + n) sCap * ie.bytes) := by omega
  have hf := run_firstCells (P := P) (w := w.drew) (bc := bc) hl (by simpa using hB)
  have hfo := run_firstCells (P := P) (w := w.drew) (bc := sCap) hlo (by simpa using hA)
  simp [Builtin.append_, run_underlying ht, run_underlying ht', sizeOf, typeInfo, zeroValue, hi, hz, Builtin.lenOf, hn, h63', h48', Question.forced, hf, hfo, newRow, grownCap]
  congr 2
  apply Array.ext'
  simp
end

/- 2. A row of elements, as the list of its cells. -/
theorem row_news {τ : STy} {xs : List (El τ)} {cell : Nat → Option Value} {R : Nat → Value → DV → Prop} (h : ∀ i e, xs[i]? = some e → ∀ j d, (enc τ e)[j]? = some d → ∃ u, cell (i * τ.sz + j) = some u ∧ R (i * τ.sz + j) u d) :
    ∃ news : List Value, news.length = xs.length * τ.sz ∧ (∀ (j : Nat) u, news[j]? = some u → cell j = some u ∧ ∃ d, R j u d) ∧
      ∀ i e, xs[i]? = some e → ∀ j d, (enc τ e)[j]? = some d → ∃ u, news[i * τ.sz + j]? = some u ∧ R (i * τ.sz + j) u d := by
  have hp := sz_pos τ
  have hall : ∀ t, t < xs.length * τ.sz → ∃ u, cell t = some u ∧ ∃ d, R t u d := by
    intro t ht
    have hi : t / τ.sz < xs.length := Nat.div_lt_of_lt_mul (by rwa [Nat.mul_comm])
    have hj : t % τ.sz < τ.sz := Nat.mod_lt _ hp
    have hj' : t % τ.sz < (enc τ xs[t / τ.sz]).length := by rw [enc_len]; exact hj
    obtain ⟨u, hu, hR⟩ := h _ _ (List.getElem?_eq_getElem hi) _ _ (List.getElem?_eq_getElem hj')
    have he : t / τ.sz * τ.sz + t % τ.sz = t := by rw [Nat.mul_comm]; exact Nat.div_add_mod t τ.sz
    rw [he] at hu hR
    exact ⟨u, hu, _, hR⟩
  have hget : ∀ t, t < xs.length * τ.sz → ((List.range (xs.length * τ.sz)).map fun t => (cell t).getD undef)[t]? = cell t := by
    intro t ht
    obtain ⟨u, hu, _⟩ := hall t ht
    simp [ht, hu]
  refine ⟨(List.range (xs.length * τ.sz)).map fun t => (cell t).getD undef, by simp, fun j u hj => ?_, fun i e he j d hj => ?_⟩
  · have hlt : j < xs.length * τ.sz := by have := (List.getElem?_eq_some_iff.1 hj).1; simpa using this
    rw [hget j hlt] at hj
    obtain ⟨u', hu', hd⟩ := hall j hlt
    rw [hj] at hu'
    cases hu'
    exact ⟨hj, hd⟩
  · obtain ⟨u, hu, hR⟩ := h i e he j d hj
    have hi : i < xs.length := (List.getElem?_eq_some_iff.1 he).1
    have hjs : j < τ.sz := by have := (List.getElem?_eq_some_iff.1 hj).1; rwa [enc_len] at this
    have hlt : i * τ.sz + j < xs.length * τ.sz := by
      have := Nat.mul_le_mul_right τ.sz (show i + 1 ≤ xs.length by omega)
      rw [Nat.add_mul] at this
      omega
    exact ⟨u, by rw [hget _ hlt]; exact hu, hR⟩
theorem dr_one {S : Nat → Prop} {lab : Lab} {w : World} {o : Own} {u : Value} {d : DV} (h : DR S lab w o u d) : u.oneCell' = true := by cases h <;> rfl

/- 3. Elements under a new owner. -/
def movedEl (y K d s : Nat) (top : Own) : Own → Own
  | some (k, p) => if k = y then (match p with | [] => top | a :: r => some (K, (a - d + s) :: r)) else some (k, p)
  | none => none
def Wld.moveEl (q : Wld) (y K d s : Nat) (top : Own) : Wld := { q with lab := fun b => movedEl y K d s top (q.lab b) }

section
variable {c : Ctx} {m : Mem} {g : Key → Value} {q : Wld} {nk : Key}
theorem moveEl_step {y K d s : Nat} {top : Own} : Step q (q.moveEl y K d s top) := by
  refine ⟨rfl, fun _ h => h, fun _ _ => .inl rfl, fun b hb => ⟨?_, rfl⟩⟩
  rcases hb with hb | ⟨k, p, h1, h2⟩
  · exact .inl hb
  · by_cases e : k = y
    · cases p with
      | nil => exact absurd rfl h1
      | cons a r => exact .inr ⟨K, (a - d + s) :: r, by simp, by simp [Wld.moveEl, h2, movedEl, e]⟩
    · exact .inr ⟨k, p, h1, by simp [Wld.moveEl, h2, movedEl, e]⟩
theorem moveEl_keeps {y K d s k : Nat} {top : Own} (hk : k ≠ y) : Keeps q (q.moveEl y K d s top) k :=
  ⟨rfl, fun b p hb => ⟨by simp [Wld.moveEl, hb, movedEl, hk], rfl⟩⟩
theorem moveEl_dr {y K d s n : Nat} {top : Own} {v : Value} {x : DV} (h : DR q.S q.lab q.w (some (y, [n])) v x) :
    DR (q.moveEl y K d s top).S (q.moveEl y K d s top).lab (q.moveEl y K d s top).w (some (K, [n - d + s])) v x :=
  h.carry (fun o o' => ∃ a r, o = some (y, a :: r) ∧ o' = some (K, (a - d + s) :: r)) (fun o o' c ⟨a, r, h1, h2⟩ => by
      subst h1 h2
      exact ⟨a, r ++ [c], by simp [ext], by simp [ext]⟩)
    (fun o o' b ⟨a, r, h1, h2⟩ hb => by
      subst h1 h2
      have hb' : q.lab b = some (y, a :: r) := hb
      exact ⟨by show movedEl y K d s top (q.lab b) = _; simp [hb', movedEl], rfl⟩) ⟨n, [], rfl, rfl⟩
theorem moveEl_lab (hG : Good c m g q) {y K d s : Nat} {top : Own} {b : Nat} {x : Key × List Nat} (h : (q.moveEl y K d s top).lab b = some x) : b < q.w.heap.size ∧ (b < q.w.heap.size → ∃ z, q.lab b = some z) := by
  cases hb : q.lab b with
  | none => simp [Wld.moveEl, hb, movedEl] at h
  | some z => exact ⟨(hG.lab b z hb).1, fun _ => ⟨z, rfl⟩⟩

/- The source of an append. -/
structure Src (c : Ctx) (m : Mem) (g : Key → Value) (q : Wld) (K s : Nat) (τ : STy) (ys : List (El τ)) (o : Bool) (ws : List (Key × C)) (B : Option Addr) (q1 : Wld) (news : List Value) : Prop where
  ab : Absd c m g q K ws q1
  len : news.length = ys.length * τ.sz
  cell : ∀ (j : Nat) u, news[j]? = some u → ∃ a, B = some a ∧ q.w.cell? (a.add j) = some u
  one : ∀ u ∈ news, u.oneCell' = true
  el : ∀ i e, ys[i]? = some e → ∀ j d, (enc τ e)[j]? = some d → ∃ u, news[i * τ.sz + j]? = some u ∧ DR q1.S q1.lab q1.w (elOwn (τ.flat || o) K (s + (i * τ.sz + j))) u d

theorem srcK_ev {τ : STy} {ya : A0} {avoid : Key} {f : List (El τ) → Bool → List (Key × C) → RM} {r : AV × List (Key × C)} (h : (srcK τ ya avoid f).ev m = some r) :
    ∃ ys o ws, (f ys o ws).ev m = some r ∧ ∀ {q : Wld} {y : Value} (K s : Nat), Good c m g q → A0R q y ya → ¬ q.fr K →
      ∃ B bc q1 news, y = .slice B ys.length bc ∧ Src c m g q K s τ ys o ws B q1 news ∧ (∀ e ∈ ws, e.1 ≠ avoid ∧ e.1 ≠ K) := by
  cases ya with
  | nil =>
    refine ⟨[], true, [], h, fun {q y} K s hG hy hK => ?_⟩
    obtain rfl : y = .slice none 0 0 := hy
    exact ⟨none, 0, q, [], rfl, ⟨Absd.refl hG K, by simp, fun j u h => by simp at h, by simp, fun i e he => by simp at he⟩, by simp⟩
  | d v =>
    cases v with
    | sl σ ys =>
      simp only [srcK] at h
      by_cases hh : σ = τ
      · subst hh
        simp only [dite_true] at h
        refine ⟨ys, σ.flat, [], h, fun {q y} K s hG hy hK => ?_⟩
        obtain ⟨B, bc, rfl, hle, hx⟩ := sl_of hy
        by_cases h0 : ys = []
        · subst h0
          exact ⟨B, bc, q, [], rfl, ⟨Absd.refl hG K, by simp, fun j u h => by simp at h, by simp, fun i e he => by simp at he⟩, by simp⟩
        · obtain ⟨b, o, rfl, hb, hc⟩ := hx h0
          obtain ⟨news, n1, n2, n3⟩ := row_news (cell := fun t => q.w.cell? ⟨b, o + t, none⟩) (R := fun _ u d => DR q.S q.lab q.w none u d) (xs := ys) (fun i e he j d hj => by
            obtain ⟨u, hu, hd⟩ := hc i e he j d hj
            exact ⟨u, by rw [← Nat.add_assoc]; exact hu, hd⟩)
          refine ⟨_, bc, q, news, rfl, ⟨Absd.refl hG K, n1, fun j u hj => ⟨_, rfl, by rw [add_lit]; exact (n2 j u hj).1⟩, fun u hu => ?_, fun i e he j d hj => ?_⟩, by simp⟩
          · obtain ⟨j, hj, rfl⟩ := List.getElem_of_mem hu
            obtain ⟨_, d, hd⟩ := n2 j _ (List.getElem?_eq_getElem hj)
            exact dr_one hd
          · obtain ⟨u, hu, hd⟩ := n3 i e he j d hj
            refine ⟨u, hu, ?_⟩
            rw [Bool.or_self]
            cases hf : σ.flat with
            | false => exact hd
            | true => exact dr_scalar (flat_scalar hf hj) hd
      · simp [hh, RM.ev] at h
    | _ => simp [srcK, RM.ev] at h
  | ls yk off len =>
    simp only [srcK] at h
    obtain ⟨hav, h⟩ := bifn_ev h
    have hav : yk ≠ avoid := fun e => by subst e; simp at hav
    simp only [RM.ev] at h
    -- the elements where they lie
    have lie : ∀ {σ : STy} {own : Bool} {ys : List (El σ)} {q : Wld} {y : Value}, (m yk = .arr σ own ys ∨ m yk = .fz σ ys) → Good c m g q → A0R q y (.ls yk off len) → ∃ B bc, y = .slice B (sub ys off len).length bc ∧
        ∃ news : List Value, news.length = (sub ys off len).length * σ.sz ∧ (∀ (j : Nat) u, news[j]? = some u → (∃ a, B = some a ∧ q.w.cell? (a.add j) = some u) ∧ u.oneCell' = true) ∧
          ∀ i e, (sub ys off len)[i]? = some e → ∀ j d, (enc σ e)[j]? = some d → ∃ u, news[i * σ.sz + j]? = some u ∧ (m yk = .arr σ own ys → DR q.S q.lab q.w (elOwn own yk (off * σ.sz + (i * σ.sz + j))) u d) ∧ DR q.S q.lab q.w none u d := by
      intro σ own ys q y hm hG hy
      obtain ⟨L, hL, hn, hz, hcap⟩ := loc_of hG hm
      obtain ⟨B, bc, rfl, s1, s2, s3, s4⟩ := hy.2 L hL
      have hsl := sub_len hn s3
      rw [← hsl]
      refine ⟨B, bc, rfl, ?_⟩
      by_cases h0 : sub ys off len = []
      · rw [h0]; exact ⟨[], by simp, fun j u h => by simp at h, fun i e he => by simp at he⟩
      · have hpos : 0 < (sub ys off len).length := List.length_pos_iff.2 h0
        rcases s4 with s4 | ⟨b, o, s5, rfl⟩
        · omega
        · have hc : ∀ i e, (sub ys off len)[i]? = some e → ∀ j d, (enc σ e)[j]? = some d → ∃ u, q.w.cell? ⟨b, o + off * σ.sz + (i * σ.sz + j), none⟩ = some u ∧ ((m yk = .arr σ own ys → DR q.S q.lab q.w (elOwn own yk (off * σ.sz + (i * σ.sz + j))) u d) ∧ DR q.S q.lab q.w none u d) := by
            intro i e he j d hj
            have hcr := hG.mem yk
            rcases hm with hm | hm
            · rw [hm] at hcr
              obtain ⟨L', hL', -, -, -, hx⟩ := hcr
              rw [hL] at hL'
              cases hL'
              rcases hx with hx | ⟨b', o', arr, k1, k2, k3, k4, k5⟩
              · omega
              · rw [s5] at k1
                cases k1
                obtain ⟨u, hu, hd⟩ := k5 (off + i) e (sub_get he) j d hj
                have heq : (off + i) * σ.sz + j = off * σ.sz + (i * σ.sz + j) := by rw [Nat.add_mul]; omega
                rw [heq] at hd
                exact ⟨u, by rw [k3.cell, ← hu]; congr 1; omega, fun _ => hd, drOfEl hd⟩
            · rw [hm] at hcr
              obtain ⟨L', hL', -, -, -, hx⟩ := hcr
              rw [hL] at hL'
              cases hL'
              rcases hx with hx | hx | ⟨b', o', k1, k2, k3⟩
              · omega
              · subst hx; cases len <;> simp [sub] at hpos
              · rw [s5] at k1
                cases k1
                obtain ⟨u, hu, hd⟩ := k3 (off + i) e (sub_get he) j d hj
                refine ⟨u, ?_, (fun h => by rw [hm] at h; cases h), hd⟩
                rw [← hu]
                congr 2
                rw [Nat.add_mul]
                omega
          obtain ⟨news, n1, n2, n3⟩ := row_news (cell := fun t => q.w.cell? ⟨b, o + off * σ.sz + t, none⟩)
            (R := fun t u d => (m yk = .arr σ own ys → DR q.S q.lab q.w (elOwn own yk (off * σ.sz + t)) u d) ∧ DR q.S q.lab q.w none u d) (xs := sub ys off len) hc
          refine ⟨news, n1, fun j u hj => ⟨⟨_, rfl, by rw [add_lit, hz]; exact (n2 j u hj).1⟩, ?_⟩, n3⟩
          obtain ⟨_, d, hd⟩ := n2 j u hj
          exact dr_one hd.2
    cases hm : m yk with
    | arr σ own ys =>
      simp only [hm] at h
      split at h
      · rename_i hh
        subst hh
        refine ⟨_, _, _, h, fun {q y} K s hG hy hK => ?_⟩
        obtain ⟨B, bc, rfl, news, n1, n2, n3⟩ := lie (.inl hm) hG hy
        have hyK : yk ≠ K := fun e => hK (e ▸ hy.1.1)
        cases hf : σ.flat with
        | true =>
          refine ⟨B, bc, q, news, rfl, ⟨by simpa [hf] using Absd.refl hG K, n1, fun j u hj => (n2 j u hj).1, fun u hu => ?_, fun i e he j d hj => ?_⟩, by simp⟩
          · obtain ⟨j, hj, rfl⟩ := List.getElem_of_mem hu
            exact (n2 j _ (List.getElem?_eq_getElem hj)).2
          · obtain ⟨u, hu, hd⟩ := n3 i e he j d hj
            exact ⟨u, hu, dr_scalar (flat_scalar hf hj) hd.2⟩
        | false =>
          have hcr := hG.mem yk
          rw [hm] at hcr
          obtain ⟨L, hL, hn, hz, hcap, hx⟩ := hcr
          have hst := moveEl_step (q := q) (y := yk) (K := K) (d := off * σ.sz) (s := s) (top := some (yk, []))
          refine ⟨B, bc, q.moveEl yk K (off * σ.sz) s (some (yk, [])), news, rfl, ⟨⟨?_, hst, rfl, rfl, fun k hk => ?_⟩, n1, fun j u hj => (n2 j u hj).1, fun u hu => ?_, fun i e he j d hj => ?_⟩, by simp [hf]; exact ⟨hav, hyK⟩⟩
          · simp only [hf, cond_false]
            refine good_change hG hst rfl rfl rfl (Nat.le_refl _) (fun _ _ _ => rfl) (fun b x hx => moveEl_lab hG hx) hG.loc (fun k => ?_)
            by_cases e : k = yk
            · subst e
              refine .inr ⟨(hG.loc k L hL).2, .inr ⟨fun v => by simp [upds, upd_same], ?_⟩⟩
              simp only [upds, upd_same]
              refine ⟨L, hL, hn, hz, hcap, ?_⟩
              rcases hx with hx | ⟨b, o, arr, k1, k2, k3, k4, k5⟩
              · exact .inl hx
              · refine .inr ⟨b, o, arr, k1, by simp [Wld.moveEl, k2, movedEl], k3, k4, fun i x hi j d hj => ?_⟩
                obtain ⟨u, hu, hd⟩ := k5 i x hi j d hj
                exact ⟨u, hu, drNone hst (drOfEl hd)⟩
            · exact .inl ⟨upd_ne m _ e, fun _ => moveEl_keeps e⟩
          · exact moveEl_keeps (by have := hk (yk, .arr σ false ys) (by simp [hf]); exact this.symm)
          · obtain ⟨j, hj, rfl⟩ := List.getElem_of_mem hu
            exact (n2 j _ (List.getElem?_eq_getElem hj)).2
          · obtain ⟨u, hu, hd⟩ := n3 i e he j d hj
            refine ⟨u, hu, ?_⟩
            simp only [hf, Bool.false_or]
            cases own with
            | false => exact drNone hst hd.2
            | true =>
              have := moveEl_dr (K := K) (d := off * σ.sz) (s := s) (top := some (yk, [])) (hd.1 hm)
              rwa [show off * σ.sz + (i * σ.sz + j) - off * σ.sz + s = s + (i * σ.sz + j) by omega] at this
      · simp [RM.ev] at h
    | fz σ ys =>
      simp only [hm] at h
      split at h
      · rename_i hh
        subst hh
        refine ⟨_, _, _, h, fun {q y} K s hG hy hK => ?_⟩
        obtain ⟨B, bc, rfl, news, n1, n2, n3⟩ := lie (own := true) (.inr hm) hG hy
        refine ⟨B, bc, q, news, rfl, ⟨Absd.refl hG K, n1, fun j u hj => (n2 j u hj).1, fun u hu => ?_, fun i e he j d hj => ?_⟩, by simp⟩
        · obtain ⟨j, hj, rfl⟩ := List.getElem_of_mem hu
          exact (n2 j _ (List.getElem?_eq_getElem hj)).2
        · obtain ⟨u, hu, hd⟩ := n3 i e he j d hj
          refine ⟨u, hu, ?_⟩
          rw [Bool.or_self]
          cases hf : σ.flat with
          | false => exact hd.2
          | true => exact dr_scalar (flat_scalar hf hj) hd.2
      · simp [RM.ev] at h
    | _ => simp [hm, RM.ev] at h
  | _ => simp [srcK, RM.ev] at h

/- The object that an append takes over is gone; its elements go to the new key. -/
theorem kill (hG : Good c m g q) {x : Key} {τ : STy} {own : Bool} {xs : List (El τ)} (hm : m x = .arr τ own xs) (hK : ¬ q.fr nk) {off : Nat} (top : Own) (htop : top = some (nk, []) ∨ top = some (x, [])) :
    ∃ q', Good c (upd m x cU) g q' ∧ Step q q' ∧ q'.w = q.w ∧ q'.fr = q.fr ∧ (∀ k, k ≠ x → Keeps q q' k) ∧ q'.lab = (q.moveEl x nk (off * τ.sz) 0 top).lab ∧
      (∀ i e, (xs.drop off)[i]? = some e → ∀ j d, (enc τ e)[j]? = some d → ∀ u, DR q.S q.lab q.w (elOwn own x ((off + i) * τ.sz + j)) u d → DR q'.S q'.lab q'.w (elOwn own nk (i * τ.sz + j)) u d) := by
  have hcr := hG.mem x
  rw [hm] at hcr
  obtain ⟨L, hL, hn, hz, hcap, hx⟩ := hcr
  have hxK : x ≠ nk := fun e => hK (e ▸ (hG.loc x L hL).1)
  have hst0 := moveEl_step (q := q) (y := x) (K := nk) (d := off * τ.sz) (s := 0) (top := top)
  let q' : Wld := { q.moveEl x nk (off * τ.sz) 0 top with loc := fun k => if k = x then none else q.loc k }
  have hst : Step q q' := ⟨rfl, fun _ h => h, fun k _ => by by_cases e : k = x <;> simp [q', e], hst0.okn⟩
  have hke : ∀ k, k ≠ x → Keeps q q' k := fun k hk => ⟨if_neg hk, (moveEl_keeps (q := q) (K := nk) (d := off * τ.sz) (s := 0) (top := top) hk).blk⟩
  refine ⟨q', ?_, hst, rfl, rfl, hke, rfl, fun i e he j d hj u hd => ?_⟩
  · refine good_change hG hst rfl rfl rfl (Nat.le_refl _) (fun _ _ _ => rfl) (fun b z hz => moveEl_lab hG hz) (fun k L' hL' => ?_) (fun k => ?_)
    · by_cases e : k = x
      · simp [q', e] at hL'
      · exact hG.loc k L' (by simpa [q', e] using hL')
    · by_cases e : k = x
      · subst e; exact .inr ⟨(hG.loc k L hL).2, .inl (upd_same _ _ _)⟩
      · exact .inl ⟨upd_ne m _ e, fun _ => hke k e⟩
  · cases own with
    | false => exact drNone hst hd
    | true =>
      have := moveEl_dr (K := nk) (d := off * τ.sz) (s := 0) (top := top) hd
      rwa [show (off + i) * τ.sz + j - off * τ.sz + 0 = i * τ.sz + j by rw [Nat.add_mul]; omega] at this
end
end Ai
end Go.Proofs.Ytfjdfbdiichhdaa
