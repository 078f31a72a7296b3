/-
  The abstract interpreter, third part: when an abstract state describes a world; the relation and how it is carried over. Conditions: none (definitions and lemmas).
-/
import Derived.Test.YtfjdfbdiichhdaaK2
import Derived.RowKit3
import Derived.Laws.OwnMore
namespace Go.Proofs.Ytfjdfbdiichhdaa
open Go
namespace Ai

abbrev Own := Option (Key × List Nat)
abbrev Lab := Nat → Own
structure Loc where
  blk : Option (Nat × Nat)
  n : Nat
  cap : Nat
  sz : Nat

def okb (S : Nat → Prop) (lab : Lab) : Own → Nat → Prop
  | none, b => S b ∨ ∃ k p, p ≠ [] ∧ lab b = some (k, p)
  | some q, b => lab b = some q
def ext (o : Own) (c : Nat) : Own := o.map fun q => (q.1, q.2 ++ [c])

inductive DR (S : Nat → Prop) (lab : Lab) (w : World) : Own → Value → DV → Prop where
  | b (o : Own) (x : Bool) : DR S lab w o (.bool x) (.b x)
  | i (o : Own) (k : IntKind) (n : Int) : DR S lab w o (.int k n) (.i k n)
  | s (o : Own) (x : Str) : DR S lab w o (.string ⟨x.toArray⟩) (.s x)
  | z (o : Own) (A : Option Addr) (c : Nat) (τ : STy) : DR S lab w o (.slice A 0 c) (.sl τ [])
  | sl (o : Own) (τ : STy) (xs : List (El τ)) (b off c : Nat) (vs : Nat → Nat → Value) (hle : xs.length ≤ c) (hb : okb S lab o b)
      (hc : ∀ i e, xs[i]? = some e → ∀ j d, (enc τ e)[j]? = some d → w.cell? ⟨b, off + i * τ.sz + j, none⟩ = some (vs i j))
      (hd : ∀ i e, xs[i]? = some e → ∀ j d, (enc τ e)[j]? = some d → DR S lab w (ext o (i * τ.sz + j)) (vs i j) d) :
      DR S lab w o (.slice (some ⟨b, off, none⟩) xs.length c) (.sl τ xs)

/- A reading is carried over where each block that it may meet is kept. -/
theorem DR.carry {S S' : Nat → Prop} {lab lab' : Lab} {w w' : World} (T : Own → Own → Prop) (hext : ∀ o o' c, T o o' → T (ext o c) (ext o' c))
    (hok : ∀ o o' b, T o o' → okb S lab o b → okb S' lab' o' b ∧ w'.heap[b]? = w.heap[b]?) {o : Own} {v : Value} {d : DV} (h : DR S lab w o v d) :
    ∀ {o' : Own}, T o o' → DR S' lab' w' o' v d := by
  induction h with
  | b o x => intro o' _; exact .b _ _
  | i o k n => intro o' _; exact .i _ _ _
  | s o x => intro o' _; exact .s _ _
  | z o A c τ => intro o' _; exact .z _ _ _ _
  | sl o τ xs b off c vs hle hb hc hd ih =>
    intro o' ht
    obtain ⟨hb', hw⟩ := hok _ _ _ ht hb
    refine .sl _ τ xs b off c vs hle hb' (fun i e he j d hj => ?_) (fun i e he j d hj => ih i e he j d hj (hext _ _ _ ht))
    rw [← hc i e he j d hj]
    exact World.cell?_of_block (w := w) hw

theorem enc_len (τ : STy) (e : El τ) : (enc τ e).length = τ.sz := by cases τ <;> rfl
theorem dec_enc (τ : STy) (e : El τ) : dec τ (enc τ e) = some e := by cases τ <;> rfl
theorem sz_pos (τ : STy) : 0 < τ.sz := by cases τ <;> decide

def lenOf (L : Loc) (off : Nat) : Option Nat → Nat
  | none => L.n - off
  | some n => n
def SlOK (L : Loc) (off : Nat) (len : Option Nat) (v : Value) : Prop :=
  ∃ A c, v = .slice A (lenOf L off len) c ∧ lenOf L off len ≤ c ∧ off + c ≤ L.cap ∧ (off ≤ L.n ∧ off + lenOf L off len ≤ L.n) ∧ (c = 0 ∨ ∃ b o, L.blk = some (b, o) ∧ A = some ⟨b, o + off * L.sz, none⟩)

structure Wld where
  S : Nat → Prop
  lab : Lab
  fr : Key → Prop
  loc : Key → Option Loc
  w : World

def A0R (q : Wld) : Value → A0 → Prop
  | v, .d x => DR q.S q.lab q.w none v x
  | v, .nil => v = .slice none 0 0
  | v, .ls x off len => (q.fr x ∧ v.oneCell' = true) ∧ ∀ L, q.loc x = some L → SlOK L off len v
  | v, .bp x off => (q.fr x ∧ v.oneCell' = true) ∧ ∀ L, q.loc x = some L → ∃ b o, L.blk = some (b, o) ∧ v = .pointer (some ⟨b, o + off, none⟩)
  | v, .ep x i off => (q.fr x ∧ v.oneCell' = true) ∧ ∀ L, q.loc x = some L → ∃ b o, L.blk = some (b, o) ∧ v = .pointer (some ⟨b, o + i * L.sz + off, none⟩)
  | v, .fp cs => ∃ b o, v = .pointer (some ⟨b, o, none⟩) ∧ okb q.S q.lab none b ∧ ∀ j d, cs[j]? = some d → ∃ u, q.w.cell? ⟨b, o + j, none⟩ = some u ∧ DR q.S q.lab q.w none u d
  | v, .uv => v = undef
  | _, .und => True

def Each {α β : Type} (R : α → β → Prop) : List α → List β → Prop
  | [], [] => True
  | a :: as, b :: bs => R a b ∧ Each R as bs
  | _, _ => False
theorem Each.length {α β : Type} {R : α → β → Prop} : ∀ {l : List α} {m : List β}, Each R l m → l.length = m.length
  | [], [], _ => rfl
  | _ :: _, _ :: _, h => by simp [Each.length h.2]
theorem Each.get {α β : Type} {R : α → β → Prop} : ∀ {l : List α} {m : List β}, Each R l m → ∀ {j : Nat} {b : β}, m[j]? = some b → ∃ a, l[j]? = some a ∧ R a b
  | [], [], _, _, _, hb => by simp at hb
  | a :: _, _ :: _, h, 0, _, hb => by simp at hb; subst hb; exact ⟨a, rfl, h.1⟩
  | _ :: _, _ :: _, h, j + 1, b, hb => by simpa using Each.get h.2 (j := j) (b := b) (by simpa using hb)
theorem Each.mono {α β : Type} {R R' : α → β → Prop} (hr : ∀ a b, R a b → R' a b) : ∀ {l : List α} {m : List β}, Each R l m → Each R' l m
  | [], [], _ => trivial
  | _ :: _, _ :: _, h => ⟨hr _ _ h.1, Each.mono hr h.2⟩
theorem Each.of_get {α β : Type} {R : α → β → Prop} : ∀ {l : List α} {m : List β}, l.length = m.length → (∀ (j : Nat) (a : α) (b : β), l[j]? = some a → m[j]? = some b → R a b) → Each R l m
  | [], [], _, _ => trivial
  | a :: as, b :: bs, h, hr => ⟨hr 0 a b rfl rfl, Each.of_get (by simpa using h) fun j x y hx hy => hr (j + 1) x y (by simpa using hx) (by simpa using hy)⟩
theorem Each.append {α β : Type} {R : α → β → Prop} : ∀ {l : List α} {m : List β} {l' : List α} {m' : List β}, Each R l m → Each R l' m' → Each R (l ++ l') (m ++ m')
  | [], [], _, _, _, h' => h'
  | _ :: _, _ :: _, _, _, h, h' => ⟨h.1, Each.append h.2 h'⟩
theorem Each.drop {α β : Type} {R : α → β → Prop} : ∀ {l : List α} {m : List β} (n : Nat), Each R l m → Each R (l.drop n) (m.drop n)
  | _, _, 0, h => by simpa using h
  | [], [], _ + 1, _ => trivial
  | _ :: _, _ :: _, n + 1, h => by simpa using Each.drop n h.2
theorem Each.take {α β : Type} {R : α → β → Prop} : ∀ {l : List α} {m : List β} (n : Nat), Each R l m → Each R (l.take n) (m.take n)
  | _, _, 0, _ => by simp [Each]
  | [], [], _ + 1, _ => by simp [Each]
  | _ :: _, _ :: _, n + 1, h => by simpa [Each] using ⟨h.1, Each.take n h.2⟩

def cellsR (q : Wld) (vs : List Value) (cs : List A0) : Prop := Each (A0R q) vs cs
def compR (q : Wld) (v : Value) (c : Bool × List A0) : Prop :=
  match c with
  | (true, cs) => ∃ vs : Array Value, v = .agg vs ∧ cellsR q vs.toList cs
  | (false, cs) => cellsR q [v] cs
def AVR (q : Wld) : Value → AV → Prop
  | v, .one a => A0R q v a
  | v, .agg cs => ∃ vs : Array Value, v = .agg vs ∧ cellsR q vs.toList cs
  | v, .tup cs => ∃ vs : Array Value, v = .tuple vs ∧ Each (compR q) vs.toList cs
  | v, .clo f cs => ∃ vs : Array Value, v = .func (.func f) #[] vs ∧ cellsR q vs.toList cs

/- A block of cells without a mark on it. -/
def Blk (w : World) (b : Nat) (arr : Array Value) : Prop := ∃ e fz, w.heap[b]? = some (.cells arr e fz) ∧ ∀ off, off < arr.size → ¬ (fz.1 ≤ off ∧ off < fz.2)
def elOwn (own : Bool) (k : Key) (c : Nat) : Own := bif own then some (k, [c]) else none

def boxR (q : Wld) (k : Key) (cs : List A0) : Prop :=
  ∃ b arr, q.loc k = some ⟨some (b, 0), cs.length, cs.length, 1⟩ ∧ q.lab b = some (k, []) ∧ Blk q.w b arr ∧ cellsR q arr.toList cs
def arrR (q : Wld) (k : Key) (τ : STy) (own : Bool) (xs : List (El τ)) : Prop :=
  ∃ L, q.loc k = some L ∧ L.n = xs.length ∧ L.sz = τ.sz ∧ xs.length ≤ L.cap ∧ (L.cap = 0 ∨ ∃ b o arr, L.blk = some (b, o) ∧ q.lab b = some (k, []) ∧ Blk q.w b arr ∧ o + L.cap * τ.sz ≤ arr.size ∧
    ∀ i x, xs[i]? = some x → ∀ j d, (enc τ x)[j]? = some d → ∃ u, arr[o + i * τ.sz + j]? = some u ∧ DR q.S q.lab q.w (elOwn own k (i * τ.sz + j)) u d)
def fzR (q : Wld) (k : Key) (τ : STy) (xs : List (El τ)) : Prop :=
  ∃ L, q.loc k = some L ∧ L.n = xs.length ∧ L.sz = τ.sz ∧ xs.length ≤ L.cap ∧ (L.cap = 0 ∨ xs = [] ∨ ∃ b o, L.blk = some (b, o) ∧ okb q.S q.lab none b ∧
    ∀ i x, xs[i]? = some x → ∀ j d, (enc τ x)[j]? = some d → ∃ u, q.w.cell? ⟨b, o + i * τ.sz + j, none⟩ = some u ∧ DR q.S q.lab q.w none u d)
def CR (q : Wld) (k : Key) (gk : Value) : C → Prop
  | .av v => AVR q gk v
  | .box cs => boxR q k cs
  | .arr τ own xs => arrR q k τ own xs
  | .fz τ xs => fzR q k τ xs

structure Ctx where
  P : Program
  w0 : World
  S : Nat → Prop
  wr : Nat → Prop
  N : Nat
  nb : Nat → Prop
  pl : Key → Option Loc

structure Good (c : Ctx) (m : Mem) (g : Key → Value) (q : Wld) : Prop where
  eS : q.S = c.S
  os : q.w.os = c.w0.os
  tape : q.w.tape = c.w0.tape
  output : q.w.output = c.w0.output
  size : c.w0.heap.size ≤ q.w.heap.size
  old : ∀ b, b < c.w0.heap.size → ¬ c.wr b → q.w.heap[b]? = c.w0.heap[b]?
  rd : ∀ b, c.S b → b < c.w0.heap.size ∧ ¬ c.wr b
  lab : ∀ b x, q.lab b = some x → b < q.w.heap.size ∧ (b < c.w0.heap.size → c.wr b)
  loc : ∀ k L, q.loc k = some L → q.fr k ∧ c.N ≤ k
  low : ∀ k, k < c.N → ∃ v, m k = .av v
  high : ∀ k, c.N ≤ k → ∀ v, m k = .av v → v = .one .und
  mem : ∀ k, CR q k (g k) (m k)
  ini : ∀ b, c.nb b → okb q.S q.lab none b ∧ q.w.heap[b]? = c.w0.heap[b]?
  pin : ∀ k L, c.pl k = some L → q.fr k ∧ (q.loc k = some L ∨ q.loc k = none)

def Tmps (c : Ctx) (g : Key → Value) (a : Act) : Prop := a.defers = [] ∧ a.tmps.size = c.N ∧ ∀ t, t < c.N → a.tmps.getD t undef = g t

/- 2. Carrying the whole relation over a change of the world and of the labels. -/
structure Step (q q' : Wld) : Prop where
  S : q'.S = q.S
  fr : ∀ k, q.fr k → q'.fr k
  loc : ∀ k, q.fr k → q'.loc k = q.loc k ∨ q'.loc k = none
  okn : ∀ b, okb q.S q.lab none b → okb q'.S q'.lab none b ∧ q'.w.heap[b]? = q.w.heap[b]?

theorem drNone {q q' : Wld} (h : Step q q') {v : Value} {d : DV} (hd : DR q.S q.lab q.w none v d) : DR q'.S q'.lab q'.w none v d :=
  hd.carry (fun o o' => o = .none ∧ o' = .none) (fun o o' c ⟨h1, h2⟩ => by subst h1 h2; exact ⟨rfl, rfl⟩)
    (fun o o' b ⟨h1, h2⟩ hb => by subst h1 h2; exact h.okn b hb) ⟨rfl, rfl⟩

theorem A0R.step {q q' : Wld} (h : Step q q') {v : Value} {a : A0} (ha : A0R q v a) : A0R q' v a := by
  cases a with
  | d x => exact drNone h ha
  | nil => exact ha
  | ls x off len => exact ⟨⟨h.fr _ ha.1.1, ha.1.2⟩, fun L hL => by
      rcases h.loc x ha.1.1 with e | e
      · exact ha.2 L (e ▸ hL)
      · rw [e] at hL; cases hL⟩
  | bp x off => exact ⟨⟨h.fr _ ha.1.1, ha.1.2⟩, fun L hL => by
      rcases h.loc x ha.1.1 with e | e
      · exact ha.2 L (e ▸ hL)
      · rw [e] at hL; cases hL⟩
  | ep x i off => exact ⟨⟨h.fr _ ha.1.1, ha.1.2⟩, fun L hL => by
      rcases h.loc x ha.1.1 with e | e
      · exact ha.2 L (e ▸ hL)
      · rw [e] at hL; cases hL⟩
  | fp cs =>
    obtain ⟨b, o, hv, hb, hc⟩ := ha
    refine ⟨b, o, hv, (h.okn b hb).1, fun j d hj => ?_⟩
    obtain ⟨u, hu, hd⟩ := hc j d hj
    exact ⟨u, by rw [← hu]; exact World.cell?_of_block (w := q.w) (h.okn b hb).2, drNone h hd⟩
  | uv => exact ha
  | und => trivial
theorem cellsR.step {q q' : Wld} (h : Step q q') {vs : List Value} {cs : List A0} (hc : cellsR q vs cs) : cellsR q' vs cs := Each.mono (fun _ _ => A0R.step h) hc
theorem compR.step {q q' : Wld} (h : Step q q') {v : Value} {c : Bool × List A0} (hc : compR q v c) : compR q' v c := by
  obtain ⟨b, cs⟩ := c
  cases b with
  | true => obtain ⟨vs, hv, hcs⟩ := hc; exact ⟨vs, hv, hcs.step h⟩
  | false => exact cellsR.step h hc
theorem AVR.step {q q' : Wld} (h : Step q q') {v : Value} {a : AV} (ha : AVR q v a) : AVR q' v a := by
  cases a with
  | one a => exact A0R.step h ha
  | agg cs => obtain ⟨vs, hv, hc⟩ := ha; exact ⟨vs, hv, hc.step h⟩
  | tup cs => obtain ⟨vs, hv, hc⟩ := ha; exact ⟨vs, hv, Each.mono (fun _ _ => compR.step h) hc⟩
  | clo f cs => obtain ⟨vs, hv, hc⟩ := ha; exact ⟨vs, hv, hc.step h⟩

theorem Step.refl (q : Wld) : Step q q := ⟨rfl, fun _ h => h, fun _ _ => .inl rfl, fun _ h => ⟨h, rfl⟩⟩
theorem Step.trans {a b c : Wld} (h : Step a b) (k : Step b c) : Step a c :=
  ⟨k.S.trans h.S, fun x hx => k.fr x (h.fr x hx), fun x hx => by
    rcases k.loc x (h.fr x hx) with e | e
    · rcases h.loc x hx with e' | e'
      · exact .inl (e.trans e')
      · exact .inr (e.trans e')
    · exact .inr e, fun b hb => ⟨(k.okn b (h.okn b hb).1).1, (k.okn b (h.okn b hb).1).2.trans (h.okn b hb).2⟩⟩

/- An object that a step keeps: its location, its block, and its own tree. -/
structure Keeps (q q' : Wld) (k : Key) : Prop where
  loc : q'.loc k = q.loc k
  blk : ∀ b p, q.lab b = some (k, p) → q'.lab b = some (k, p) ∧ q'.w.heap[b]? = q.w.heap[b]?

theorem drOwn {q q' : Wld} {k : Key} (h : Keeps q q' k) {p : List Nat} {v : Value} {d : DV} (hd : DR q.S q.lab q.w (some (k, p)) v d) : DR q'.S q'.lab q'.w (some (k, p)) v d :=
  hd.carry (fun o o' => o = o' ∧ ∃ p, o = some (k, p)) (fun o o' c ⟨h1, p, h2⟩ => by subst h1 h2; exact ⟨rfl, p ++ [c], rfl⟩)
    (fun o o' b ⟨h1, p, h2⟩ hb => by subst h1 h2; exact h.blk b p hb) ⟨rfl, p, rfl⟩
theorem drEl {q q' : Wld} {k : Key} (hs : Step q q') (h : Keeps q q' k) {own : Bool} {c : Nat} {v : Value} {d : DV}
    (hd : DR q.S q.lab q.w (Ai.elOwn own k c) v d) : DR q'.S q'.lab q'.w (Ai.elOwn own k c) v d := by
  cases own with
  | true => exact drOwn h hd
  | false => exact drNone hs hd

theorem CR.step {q q' : Wld} {k : Key} {gk : Value} {c : C} (hs : Step q q') (hk : (∀ v, c ≠ .av v) → Keeps q q' k) (hc : CR q k gk c) : CR q' k gk c := by
  cases c with
  | av v => exact AVR.step hs hc
  | box cs =>
    have h := hk (fun v => by simp)
    obtain ⟨b, arr, hl, hb, ⟨e, fz, hw, hz⟩, hcs⟩ := hc
    obtain ⟨h1, h2⟩ := h.blk b [] hb
    exact ⟨b, arr, h.loc.trans hl, h1, ⟨e, fz, h2.trans hw, hz⟩, hcs.step hs⟩
  | arr τ own xs =>
    have h := hk (fun v => by simp)
    obtain ⟨L, hl, hn, hz, hle, hr⟩ := hc
    refine ⟨L, h.loc.trans hl, hn, hz, hle, ?_⟩
    rcases hr with hr | ⟨b, o, arr, hLb, hb, ⟨e, fz, hw, hfz⟩, hsz, hx⟩
    · exact .inl hr
    · obtain ⟨h1, h2⟩ := h.blk b [] hb
      refine .inr ⟨b, o, arr, hLb, h1, ⟨e, fz, h2.trans hw, hfz⟩, hsz, fun i x hi j d hj => ?_⟩
      obtain ⟨u, hu, hd⟩ := hx i x hi j d hj
      exact ⟨u, hu, drEl hs h hd⟩
  | fz τ xs =>
    have h := hk (fun v => by simp)
    obtain ⟨L, hl, hn, hz, hle, hr⟩ := hc
    refine ⟨L, h.loc.trans hl, hn, hz, hle, ?_⟩
    rcases hr with hr | hr | ⟨b, o, hLb, hb, hx⟩
    · exact .inl hr
    · exact .inr (.inl hr)
    · refine .inr (.inr ⟨b, o, hLb, (hs.okn b hb).1, fun i x hi j d hj => ?_⟩)
      obtain ⟨u, hu, hd⟩ := hx i x hi j d hj
      exact ⟨u, by rw [← hu]; exact World.cell?_of_block (w := q.w) (hs.okn b hb).2, drNone hs hd⟩

end Ai
end Go.Proofs.Ytfjdfbdiichhdaa
