/-
  The abstract interpreter, tenth part: the soundness of making memory (variables, slices). Conditions: the table agrees with the program (TysOK).
-/
import Derived.Test.YtfjdfbdiichhdaaK9
namespace Go.Proofs.Ytfjdfbdiichhdaa
open Go
namespace Ai

theorem upd_same (m : Mem) (k : Key) (x : C) : upd m k x k = x := by simp [upd]
theorem upd_ne (m : Mem) {k j : Key} (x : C) (h : j ≠ k) : upd m k x j = m j := by
  have : Nat.beq j k = false := by
    cases hb : Nat.beq j k with
    | false => rfl
    | true => exact absurd (Nat.eq_of_beq_eq_true hb) h
  simp [upd, this]
theorem upds_not {ws : List (Key × C)} : ∀ {m : Mem} {k : Key}, (∀ e ∈ ws, e.1 ≠ k) → upds m ws k = m k := by
  induction ws with
  | nil => intro m k _; rfl
  | cons e ws ih =>
    intro m k h
    obtain ⟨j, x⟩ := e
    simp only [upds]
    rw [ih fun e he => h e (by simp [he])]
    exact upd_ne m x (h (j, x) (by simp)).symm

theorem good_change {c : Ctx} {m m' : Mem} {g : Key → Value} {q q' : Wld} (hG : Good c m g q) (hs : Step q q')
    (h1 : q'.w.os = q.w.os) (h2 : q'.w.tape = q.w.tape) (h3 : q'.w.output = q.w.output) (hsz : q.w.heap.size ≤ q'.w.heap.size)
    (hblk : ∀ b, b < q.w.heap.size → q.lab b = none → q'.w.heap[b]? = q.w.heap[b]?)
    (hlab : ∀ b x, q'.lab b = some x → b < q'.w.heap.size ∧ (b < q.w.heap.size → ∃ y, q.lab b = some y))
    (hloc : ∀ k L, q'.loc k = some L → q'.fr k ∧ c.N ≤ k)
    (hm : ∀ k, (m' k = m k ∧ ((∀ v, m k ≠ .av v) → Keeps q q' k)) ∨ (c.N ≤ k ∧ (m' k = cU ∨ ((∀ v, m' k ≠ .av v) ∧ CR q' k (g k) (m' k))))) : Good c m' g q' where
  eS := hs.S.trans hG.eS
  os := h1.trans hG.os
  tape := h2.trans hG.tape
  output := h3.trans hG.output
  size := Nat.le_trans hG.size hsz
  old b hb hw := by
    rw [hblk b (Nat.lt_of_lt_of_le hb hG.size) ?_]
    · exact hG.old b hb hw
    · cases h : q.lab b with
      | none => rfl
      | some x => exact absurd ((hG.lab b x h).2 hb) hw
  rd := hG.rd
  lab b x hx := ⟨(hlab b x hx).1, fun hb => by
    obtain ⟨y, hy⟩ := (hlab b x hx).2 (Nat.lt_of_lt_of_le hb hG.size)
    exact (hG.lab b y hy).2 hb⟩
  loc := hloc
  low k hk := by
    rcases hm k with ⟨e, -⟩ | ⟨hN, -⟩
    · rw [e]; exact hG.low k hk
    · omega
  high k hk v hv := by
    rcases hm k with ⟨e, -⟩ | ⟨-, e | ⟨h, -⟩⟩
    · exact hG.high k hk v (e ▸ hv)
    · rw [e] at hv; cases hv; rfl
    · exact absurd hv (h v)
  mem k := by
    rcases hm k with ⟨e, h⟩ | ⟨-, e | ⟨-, h⟩⟩
    · rw [e]; exact CR.step hs h (hG.mem k)
    · rw [e]; exact trivial
    · exact h
  ini b hb := by
    obtain ⟨e1, e2⟩ := hG.ini b hb
    obtain ⟨e3, e4⟩ := hs.okn b e1
    exact ⟨e3, e4.trans e2⟩
  pin k L hk := by
    obtain ⟨e1, e2⟩ := hG.pin k L hk
    refine ⟨hs.fr k e1, ?_⟩
    rcases hs.loc k e1 with e3 | e3
    · rw [e3]; exact e2
    · exact .inr e3

/- A world whose tape was asked once more: nothing that the relation speaks of has changed. -/
def Wld.drew (q : Wld) : Wld := { q with w := q.w.drew }
theorem drew_good {c : Ctx} {m : Mem} {g : Key → Value} {q : Wld} (hG : Good c m g q) : Good c m g q.drew ∧ Step q q.drew := by
  have hs : Step q q.drew := ⟨rfl, fun _ h => h, fun _ _ => .inl rfl, fun _ h => ⟨h, rfl⟩⟩
  exact ⟨good_change hG hs rfl rfl rfl (Nat.le_refl _) (fun _ _ _ => rfl) (fun b x hx => ⟨(hG.lab b x hx).1, fun _ => ⟨x, hx⟩⟩) hG.loc
    (fun k => .inl ⟨rfl, fun _ => ⟨rfl, fun b p hb => ⟨hb, rfl⟩⟩⟩), hs⟩

/- A new block under a new key. -/
def Wld.fresh (q : Wld) (nk : Key) (L : Loc) (w' : World) : Wld :=
  { S := q.S, lab := fun b => if b = q.w.heap.size then some (nk, []) else q.lab b, fr := fun k => q.fr k ∨ k = nk, loc := fun k => if k = nk then some L else q.loc k, w := w' }
theorem alloc_step {c : Ctx} {m : Mem} {g : Key → Value} {q : Wld} {nk : Key} (hG : Good c m g q) (hf : ¬ q.fr nk) (L : Loc) (o : Obj) :
    Step q (q.fresh nk L (q.w.alloc o)) ∧ ∀ k, k ≠ nk → Keeps q (q.fresh nk L (q.w.alloc o)) k := by
  have hold : ∀ b x, q.lab b = some x → b ≠ q.w.heap.size := fun b x hx => by have := (hG.lab b x hx).1; omega
  have hheap : ∀ b, b ≠ q.w.heap.size → (q.w.alloc o).heap[b]? = q.w.heap[b]? := fun b hb => by
    show (q.w.heap.push o)[b]? = _
    rw [Array.getElem?_push, if_neg hb]
  refine ⟨⟨rfl, fun k h => .inl h, fun k h => .inl (if_neg fun (e : k = nk) => hf (e ▸ h)), fun b hb => ?_⟩, fun k hk => ⟨if_neg hk, fun b p hb => ?_⟩⟩
  · rcases hb with hb | ⟨k, p, hp, hb⟩
    · have := (hG.rd b (hG.eS ▸ hb)).1
      have hne : b ≠ q.w.heap.size := by have := hG.size; omega
      exact ⟨.inl hb, hheap b hne⟩
    · exact ⟨.inr ⟨k, p, hp, (if_neg (hold b _ hb)).trans hb⟩, hheap b (hold b _ hb)⟩
  · exact ⟨(if_neg (hold b _ hb)).trans hb, hheap b (hold b _ hb)⟩
theorem good_alloc {c : Ctx} {m : Mem} {g : Key → Value} {q : Wld} {nk : Key} (hG : Good c m g q) (hf : ¬ q.fr nk) (hN : c.N ≤ nk) (L : Loc) (o : Obj) (x : C) (hx : ∀ v, x ≠ .av v)
    (hR : CR (q.fresh nk L (q.w.alloc o)) nk (g nk) x) : Good c (upd m nk x) g (q.fresh nk L (q.w.alloc o)) := by
  obtain ⟨hs, hk⟩ := alloc_step hG hf L o
  refine good_change hG hs rfl rfl rfl (by simp [Wld.fresh]) (fun b hb _ => ?_) (fun b x hx => ?_) (fun k L' hL => ?_) (fun k => ?_)
  · show (q.w.heap.push o)[b]? = _
    rw [Array.getElem?_push, if_neg (by omega)]
  · by_cases e : b = q.w.heap.size
    · exact ⟨by rw [e]; simp [Wld.fresh], fun h => by omega⟩
    · have hx' : q.lab b = some x := by simpa [Wld.fresh, e] using hx
      exact ⟨by have := (hG.lab b x hx').1; simp [Wld.fresh]; omega, fun _ => ⟨x, hx'⟩⟩
  · by_cases e : k = nk
    · subst e; exact ⟨.inr rfl, hN⟩
    · have hL' : q.loc k = some L' := by simpa [Wld.fresh, e] using hL
      exact ⟨.inl (hG.loc k L' hL').1, (hG.loc k L' hL').2⟩
  · by_cases e : k = nk
    · subst e; exact .inr ⟨hN, .inr ⟨fun v => by rw [upd_same]; exact hx v, by rw [upd_same]; exact hR⟩⟩
    · exact .inl ⟨upd_ne m x e, fun _ => hk k e⟩

theorem fresh_blk {q : Wld} {nk : Key} {L : Loc} {arr : Array Value} {e : TypeId} : Blk (q.fresh nk L (q.w.alloc (.cells arr e))).w q.w.heap.size arr :=
  ⟨e, (0, 0), by show (q.w.heap.push _)[q.w.heap.size]? = _; simp, fun off _ => by simp⟩
theorem fresh_lab {q : Wld} {nk : Key} {L : Loc} {w' : World} : (q.fresh nk L w').lab q.w.heap.size = some (nk, []) := by simp [Wld.fresh]
theorem fresh_loc {q : Wld} {nk : Key} {L : Loc} {w' : World} : (q.fresh nk L w').loc nk = some L := by simp [Wld.fresh]

section
variable {c : Ctx} {m : Mem} {g : Key → Value} {q : Wld} {nk : Key} {a : Act}

theorem zs_cells : ∀ {vs : List Value} {as : List A0}, zsB vs as = true → cellsR q vs as
  | [], [], _ => trivial
  | v :: vs, x :: as, h => by
    simp only [zsB, Bool.and_eq_true] at h
    refine ⟨?_, zs_cells h.2⟩
    have h1 := h.1
    unfold zB at h1
    split at h1
    · simp at h1; subst h1; exact .b _ _
    · simp at h1; obtain ⟨rfl, rfl⟩ := h1; exact .i _ _ _
    · rename_i s l
      simp at h1
      subst h1
      obtain ⟨d⟩ := s
      simpa [A0R] using DR.s (S := q.S) (lab := q.lab) (w := q.w) none d.toList
    · rfl
    · trivial
    · cases h1
  | [], _ :: _, h => by simp [zsB] at h
  | _ :: _, [], h => by simp [zsB] at h

/- A new variable. -/
theorem var_does (hG : Good c m g q) (hf : ¬ q.fr nk) (hN : c.N ≤ nk) {t : TypeId} {x : Value} {cs : List A0} (hc : cellsR q x.cells.toList cs) {R : Result Value}
    (hR : R = .ok (.pointer (some ⟨q.w.heap.size, 0, none⟩)) (q.w.alloc (.cells x.cells t))) : Does c m g q nk (.one (.bp nk 0)) [(nk, .box cs)] R := by
  obtain ⟨hs, -⟩ := alloc_step hG hf ⟨some (q.w.heap.size, 0), cs.length, cs.length, 1⟩ (.cells x.cells t)
  refine ⟨_, q.fresh nk ⟨some (q.w.heap.size, 0), cs.length, cs.length, 1⟩ (q.w.alloc (.cells x.cells t)), hR, ?_, hs, ?_, ?_⟩
  · exact good_alloc hG hf hN _ _ _ (fun v => by simp) ⟨q.w.heap.size, x.cells, fresh_loc, fresh_lab, fresh_blk, hc.step hs⟩
  · exact ⟨⟨.inr rfl, rfl⟩, fun L hL => by rw [fresh_loc] at hL; cases hL; exact ⟨_, _, rfl, by simp⟩⟩
  · intro k hk
    rcases hk with hk | rfl
    · exact .inl hk
    · exact .inr ⟨Nat.le_refl _, Nat.lt_add_of_pos_right (by decide)⟩

theorem alloc_does (hG : Good c m g q) (hf : ¬ q.fr nk) (hN : c.N ≤ nk) {t : TypeId} {i : TI} (hi : TyOK c.P t i) : Does c m g q nk (.one (.bp nk 0)) [(nk, .box i.zero)] ((Instr.alloc t true (.tuple #[])).run c.P q.w) := by
  obtain ⟨inf, d, z, h1, h2, h3, h4, h5, h6, h7, h8⟩ := hi.inf
  exact var_does hG hf hN (zs_cells h7) (by simp [Instr.alloc, zeroValue, typeInfo, h1, h5, newVar, newRow]; rfl)
theorem box_does (hG : Good c m g q) (hf : ¬ q.fr nk) (hN : c.N ≤ nk) {t : TypeId} {x : Value} {xa : AV} (hlen : cellsR q x.cells.toList xa.cells) :
    Does c m g q nk (.one (.bp nk 0)) [(nk, .box xa.cells)] ((Instr.box t x).run c.P q.w) :=
  var_does hG hf hN hlen (by simp [Instr.box, newVar, newRow]; rfl)
end

end Ai
end Go.Proofs.Ytfjdfbdiichhdaa
