/-
  The reading of arguments: what a statement reads of a value is a deep value of the interpreter, and its bulk bounds the lengths in it. Conditions: a table of the types (rdB).
-/
import Derived.Test.YtfjdfbdiichhdaaJ1
import Derived.Test.YtfjdfbdiichhdaaRows
import Derived.Deep.Slices
namespace Go.Proofs.Ytfjdfbdiichhdaa
open Go Go.RowKit Go.ChangeShapes Go.WideShapes
namespace Ai

inductive RD where
  | i (k : IntKind)
  | b
  | s
  | sl (τ : STy)
  deriving DecidableEq
def IsRD : RD → DV → Prop
  | .i k, d => ∃ n, d = .i k n
  | .b, d => ∃ x, d = .b x
  | .s, d => ∃ x, d = .s x
  | .sl τ, d => ∃ xs, d = .sl τ xs
def rtsOf : STy → List RD
  | .row => [.i .i64, .i .i64, .i .i64]
  | .run => [.sl .row]
  | .int => [.i .i64]
  | .bool => [.b]
  | .byte => [.i .u8]
  | .str => [.s]
  | .cli => [.i .i64, .i .i64, .i .i64]
  | .clis => [.sl .cli]
  | .pair => [.i .i64, .i .i64, .i .i64, .i .i64, .i .i64, .i .i64, .b]
  | .grp => [.i .i64, .i .i64, .i .i64, .i .i64, .i .i64]
  | .tsk => [.i .i64, .sl .row, .sl .row, .sl .bool, .i .i64]
  | .gtk => [.sl .row, .i .i64]
  | .slt => [.i .i64, .i .i64, .sl .row, .i .i64, .sl .row, .sl .row, .sl .row, .sl .run, .i .i64, .i .i64, .i .i64, .i .i64,
      .sl .tsk, .i .i64, .i .i64, .sl .gtk, .i .i64, .b, .sl .row, .sl .pair, .sl .grp, .b]

theorem Each.inv {α β : Type} {R : α → β → Prop} {a : α} {l : List α} {m : List β} (h : Each R (a :: l) m) : ∃ d ds, m = d :: ds ∧ R a d ∧ Each R l ds := by
  cases m with
  | nil => exact h.elim
  | cons d ds => exact ⟨d, ds, rfl, h.1, h.2⟩
theorem Each.inv_nil {α β : Type} {R : α → β → Prop} {m : List β} (h : Each R ([] : List α) m) : m = [] := by
  cases m with
  | nil => rfl
  | cons d ds => exact h.elim

theorem el_of_rts {τ : STy} {ds : List DV} (h : Each IsRD (rtsOf τ) ds) : ∃ e : El τ, enc τ e = ds := by
  cases τ <;> simp only [rtsOf] at h
  case row =>
    replace h := h.inv; obtain ⟨_, _, rfl, ⟨a, rfl⟩, h⟩ := h
    replace h := h.inv; obtain ⟨_, _, rfl, ⟨b, rfl⟩, h⟩ := h
    replace h := h.inv; obtain ⟨_, _, rfl, ⟨c, rfl⟩, h⟩ := h
    cases h.inv_nil
    exact ⟨⟨a, b, c⟩, rfl⟩
  case run =>
    replace h := h.inv; obtain ⟨_, _, rfl, ⟨a, rfl⟩, h⟩ := h
    cases h.inv_nil
    exact ⟨a, rfl⟩
  case int =>
    replace h := h.inv; obtain ⟨_, _, rfl, ⟨a, rfl⟩, h⟩ := h
    cases h.inv_nil
    exact ⟨a, rfl⟩
  case bool =>
    replace h := h.inv; obtain ⟨_, _, rfl, ⟨a, rfl⟩, h⟩ := h
    cases h.inv_nil
    exact ⟨a, rfl⟩
  case byte =>
    replace h := h.inv; obtain ⟨_, _, rfl, ⟨a, rfl⟩, h⟩ := h
    cases h.inv_nil
    exact ⟨a, rfl⟩
  case str =>
    replace h := h.inv; obtain ⟨_, _, rfl, ⟨a, rfl⟩, h⟩ := h
    cases h.inv_nil
    exact ⟨a, rfl⟩
  case cli =>
    replace h := h.inv; obtain ⟨_, _, rfl, ⟨a, rfl⟩, h⟩ := h
    replace h := h.inv; obtain ⟨_, _, rfl, ⟨b, rfl⟩, h⟩ := h
    replace h := h.inv; obtain ⟨_, _, rfl, ⟨c, rfl⟩, h⟩ := h
    cases h.inv_nil
    exact ⟨⟨a, b, c⟩, rfl⟩
  case clis =>
    replace h := h.inv; obtain ⟨_, _, rfl, ⟨a, rfl⟩, h⟩ := h
    cases h.inv_nil
    exact ⟨a, rfl⟩
  case pair =>
    replace h := h.inv; obtain ⟨_, _, rfl, ⟨a, rfl⟩, h⟩ := h
    replace h := h.inv; obtain ⟨_, _, rfl, ⟨b, rfl⟩, h⟩ := h
    replace h := h.inv; obtain ⟨_, _, rfl, ⟨c, rfl⟩, h⟩ := h
    replace h := h.inv; obtain ⟨_, _, rfl, ⟨d, rfl⟩, h⟩ := h
    replace h := h.inv; obtain ⟨_, _, rfl, ⟨e, rfl⟩, h⟩ := h
    replace h := h.inv; obtain ⟨_, _, rfl, ⟨f, rfl⟩, h⟩ := h
    replace h := h.inv; obtain ⟨_, _, rfl, ⟨m, rfl⟩, h⟩ := h
    cases h.inv_nil
    exact ⟨⟨⟨a, b, c⟩, ⟨d, e, f⟩, m⟩, rfl⟩
  case grp =>
    replace h := h.inv; obtain ⟨_, _, rfl, ⟨a, rfl⟩, h⟩ := h
    replace h := h.inv; obtain ⟨_, _, rfl, ⟨b, rfl⟩, h⟩ := h
    replace h := h.inv; obtain ⟨_, _, rfl, ⟨c, rfl⟩, h⟩ := h
    replace h := h.inv; obtain ⟨_, _, rfl, ⟨d, rfl⟩, h⟩ := h
    replace h := h.inv; obtain ⟨_, _, rfl, ⟨e, rfl⟩, h⟩ := h
    cases h.inv_nil
    exact ⟨⟨a, b, c, d, e⟩, rfl⟩
  case tsk =>
    replace h := h.inv; obtain ⟨_, _, rfl, ⟨a, rfl⟩, h⟩ := h
    replace h := h.inv; obtain ⟨_, _, rfl, ⟨b, rfl⟩, h⟩ := h
    replace h := h.inv; obtain ⟨_, _, rfl, ⟨c, rfl⟩, h⟩ := h
    replace h := h.inv; obtain ⟨_, _, rfl, ⟨d, rfl⟩, h⟩ := h
    replace h := h.inv; obtain ⟨_, _, rfl, ⟨e, rfl⟩, h⟩ := h
    cases h.inv_nil
    exact ⟨⟨a, b, c, d, e⟩, rfl⟩
  case gtk =>
    replace h := h.inv; obtain ⟨_, _, rfl, ⟨a, rfl⟩, h⟩ := h
    replace h := h.inv; obtain ⟨_, _, rfl, ⟨b, rfl⟩, h⟩ := h
    cases h.inv_nil
    exact ⟨⟨a, b⟩, rfl⟩
  case slt =>
    replace h := h.inv; obtain ⟨_, _, rfl, ⟨x0, rfl⟩, h⟩ := h
    replace h := h.inv; obtain ⟨_, _, rfl, ⟨x1, rfl⟩, h⟩ := h
    replace h := h.inv; obtain ⟨_, _, rfl, ⟨x2, rfl⟩, h⟩ := h
    replace h := h.inv; obtain ⟨_, _, rfl, ⟨x3, rfl⟩, h⟩ := h
    replace h := h.inv; obtain ⟨_, _, rfl, ⟨x4, rfl⟩, h⟩ := h
    replace h := h.inv; obtain ⟨_, _, rfl, ⟨x5, rfl⟩, h⟩ := h
    replace h := h.inv; obtain ⟨_, _, rfl, ⟨x6, rfl⟩, h⟩ := h
    replace h := h.inv; obtain ⟨_, _, rfl, ⟨x7, rfl⟩, h⟩ := h
    replace h := h.inv; obtain ⟨_, _, rfl, ⟨x8, rfl⟩, h⟩ := h
    replace h := h.inv; obtain ⟨_, _, rfl, ⟨x9, rfl⟩, h⟩ := h
    replace h := h.inv; obtain ⟨_, _, rfl, ⟨xa, rfl⟩, h⟩ := h
    replace h := h.inv; obtain ⟨_, _, rfl, ⟨xb, rfl⟩, h⟩ := h
    replace h := h.inv; obtain ⟨_, _, rfl, ⟨xc, rfl⟩, h⟩ := h
    replace h := h.inv; obtain ⟨_, _, rfl, ⟨xd, rfl⟩, h⟩ := h
    replace h := h.inv; obtain ⟨_, _, rfl, ⟨xe, rfl⟩, h⟩ := h
    replace h := h.inv; obtain ⟨_, _, rfl, ⟨xf, rfl⟩, h⟩ := h
    replace h := h.inv; obtain ⟨_, _, rfl, ⟨xg, rfl⟩, h⟩ := h
    replace h := h.inv; obtain ⟨_, _, rfl, ⟨xh, rfl⟩, h⟩ := h
    replace h := h.inv; obtain ⟨_, _, rfl, ⟨xi, rfl⟩, h⟩ := h
    replace h := h.inv; obtain ⟨_, _, rfl, ⟨xj, rfl⟩, h⟩ := h
    replace h := h.inv; obtain ⟨_, _, rfl, ⟨xk, rfl⟩, h⟩ := h
    replace h := h.inv; obtain ⟨_, _, rfl, ⟨xl, rfl⟩, h⟩ := h
    cases h.inv_nil
    exact ⟨⟨x0, ⟨x1, ⟨x2, x3, x4, x5, x6, x7, x8, x9, xa, xb⟩, ⟨xc, xd, xe⟩, ⟨xf, xg, xh⟩⟩, ⟨xi, xj, xk⟩, xl⟩, rfl⟩

/- The bulk of a deep value, looked at to a depth. -/
def bN : Nat → DV → Nat
  | _, .s x => x.length + 1
  | 0, .sl _ xs => xs.length + 1
  | n + 1, .sl τ xs => (xs.map fun e => ((enc τ e).map (bN n)).sum).sum + 1
  | _, _ => 1
theorem bN_pos (n : Nat) (d : DV) : 1 ≤ bN n d := by
  cases d <;> cases n <;> simp [bN]
theorem sum_pos (n : Nat) : ∀ {l : List DV}, l ≠ [] → 1 ≤ (l.map (bN n)).sum
  | [], h => absurd rfl h
  | d :: l, _ => by have := bN_pos n d; simp; omega
theorem enc_ne {τ : STy} {e : El τ} : enc τ e ≠ [] := by
  intro h
  have h1 := enc_len τ e
  have h2 := sz_pos τ
  rw [h] at h1
  simp at h1
  omega

/- The numbers in a deep value are in their kind's range, looked at to a depth. -/
def okN : Nat → DV → Bool
  | _, .i k n => (Lit.int k n).wf
  | n + 1, .sl τ xs => xs.all fun e => (enc τ e).all (okN n)
  | _, _ => true

section
variable {H : Type} {enc' : TypeId × Value → H} {P : Program} {W : World}
theorem bulkAll_sum : ∀ ds : List (DataW H), Rows.uptoBulkAll ds = (ds.map Rows.uptoBulk).sum
  | [] => by simp [Rows.uptoBulkAll]
  | d :: r => by simp [Rows.uptoBulkAll, bulkAll_sum r]
theorem bulkAll_append (a b : List (DataW H)) : Rows.uptoBulkAll (a ++ b) = Rows.uptoBulkAll a + Rows.uptoBulkAll b := by
  simp [bulkAll_sum]

theorem sum_le_of {α β : Type} {f : α → Nat} {g : β → Nat} : ∀ {l : List α} {m : List β}, l.length = m.length → (∀ (i : Nat) a b, l[i]? = some a → m[i]? = some b → f a ≤ g b) → (l.map f).sum ≤ (m.map g).sum
  | [], [], _, _ => by simp
  | a :: l, b :: m, hl, h => by
    have h1 := h 0 a b rfl rfl
    have h2 := sum_le_of (l := l) (m := m) (f := f) (g := g) (by simpa using hl) fun i x y hx hy => h (i + 1) x y (by simpa using hx) (by simpa using hy)
    simp; omega
theorem len_le_of {α β : Type} {g : β → Nat} : ∀ {l : List α} {m : List β}, l.length = m.length → (∀ (i : Nat) b, m[i]? = some b → 1 ≤ g b) → l.length ≤ (m.map g).sum
  | [], [], _, _ => by simp
  | a :: l, b :: m, hl, h => by
    have h1 := h 0 b rfl
    have h2 := len_le_of (l := l) (m := m) (g := g) (by simpa using hl) fun i y hy => h (i + 1) y (by simpa using hy)
    simp; omega
theorem list_of {α : Type} : ∀ {n : Nat} {p : Nat → α → Prop}, (∀ i, i < n → ∃ x, p i x) → ∃ xs : List α, xs.length = n ∧ ∀ i e, xs[i]? = some e → p i e
  | 0, _, _ => ⟨[], rfl, fun i e h => by simp at h⟩
  | n + 1, p, h => by
    obtain ⟨x, hx⟩ := h 0 (by omega)
    obtain ⟨xs, hl, hxs⟩ := list_of (n := n) (p := fun i => p (i + 1)) fun i hi => h (i + 1) (by omega)
    refine ⟨x :: xs, by simp [hl], fun i e he => ?_⟩
    cases i with
    | zero => simp at he; subst he; exact hx
    | succ i => exact hxs i e (by simpa using he)

def fldRd (P : Program) (rd : TypeId → List RD → Bool) : List Field → List RD → Nat → Bool
  | [], rts, _ => rts.isEmpty
  | f :: r, rts, o => (f.offset == o) && Nat.ble (P.cellsOf f.type) rts.length && rd f.type (rts.take (P.cellsOf f.type)) && fldRd P rd r (rts.drop (P.cellsOf f.type)) (o + P.cellsOf f.type)
def rdB (P : Program) : Nat → TypeId → List RD → Bool
  | 0, _, _ => false
  | n + 1, t, rts =>
    match P.underlying t with
    | some (.int k) => rts == [.i k]
    | some .bool => rts == [.b]
    | some .string => rts == [.s]
    | some (.slice e) => match rts with | [.sl τ] => P.cellsOf e == τ.sz && rdB P n e (rtsOf τ) | _ => false
    | some (.struct fs) => P.cellsOf t == rts.length && fldRd P (rdB P n) fs.toList rts 0
    | _ => false

theorem cells_lt {a : Addr} {v : Value} (h : W.cell? a = some v) : a.block < W.heap.size ∧ a.spot = none := by
  unfold World.cell? at h
  split at h
  · rename_i c t f hb
    split at h
    · cases h
    · rename_i hs
      refine ⟨?_, by simpa using hs⟩
      rw [Array.getElem?_eq_some_iff] at hb
      exact hb.1
  · cases h

theorem read_cells {S : Nat → Prop} {lab : Lab} (hS : ∀ b, b < W.heap.size → S b) : ∀ (fuel : Nat) (t : TypeId) (cs : List Value) (x : DataW H × List MemPlace) (m : Nat) (rts : List RD),
    DataW.trod enc' P W 0 (fun _ => true) true fuel t cs = some x → rdB P m t rts = true →
      ∃ ds, Each (DR S lab W none) cs ds ∧ Each IsRD rts ds ∧ (∀ n, ds.all (okN n) = true) ∧ ∀ n, (ds.map (bN n)).sum ≤ Rows.uptoBulk x.1 := by
  intro fuel
  induction fuel with
  | zero => intro t cs x m rts h; simp [DataW.trod] at h
  | succ fuel ih =>
    intro t cs x m rts h hr
    cases m with
    | zero => cases hr
    | succ m =>
    unfold rdB at hr
    split at hr
    · rename_i k hu
      obtain ⟨n, rfl, rfl, hwf⟩ := DataW.trod_int hu h
      rw [eq_of_beq hr]
      exact ⟨[.i k n], ⟨.i _ _ _, trivial⟩, ⟨⟨n, rfl⟩, trivial⟩, fun m => (by cases m <;> simp [okN, hwf]), fun n => by cases n <;> simp [bN, Rows.uptoBulk]⟩
    · rename_i hu
      obtain ⟨b, rfl, rfl⟩ := DataW.trod_bool hu h
      rw [eq_of_beq hr]
      exact ⟨[.b b], ⟨.b _ _, trivial⟩, ⟨⟨b, rfl⟩, trivial⟩, fun m => (by cases m <;> simp [okN]), fun n => by cases n <;> simp [bN, Rows.uptoBulk]⟩
    · rename_i hu
      obtain ⟨s, rfl, rfl, -⟩ := DataW.trod_string hu h
      rw [eq_of_beq hr]
      refine ⟨[.s s.data.toList], ⟨?_, trivial⟩, ⟨⟨_, rfl⟩, trivial⟩, fun m => (by cases m <;> simp [okN]), fun n => by cases n <;> simp [bN, Rows.uptoBulk]⟩
      have : (Value.string s) = .string ⟨s.data.toList.toArray⟩ := by simp
      rw [this]
      exact .s _ _
    · rename_i e hu
      split at hr
      · rename_i τ
        obtain ⟨hc, hr⟩ := (Bool.and_eq_true _ _).mp hr
        have hc := eq_of_beq hc
        rcases DataW.trod_slice hu h with ⟨rfl, rfl⟩ | ⟨a, len, cap, elems, rest, n, hn, rfl, rfl, -, hl, -, hlen, hel, -, -⟩
        · exact ⟨[.sl τ []], ⟨.z _ _ _ _, trivial⟩, ⟨⟨[], rfl⟩, trivial⟩, fun m => (by cases m <;> simp [okN]), fun n => by cases n <;> simp [bN, Rows.uptoBulk]⟩
        · cases hn
          have one : ∀ i, i < len → ∃ x : El τ, (∀ j d, (enc τ x)[j]? = some d → ∃ u, W.cell? (a.add (i * τ.sz + j)) = some u ∧ DR S lab W none u d) ∧ (∀ n, (enc τ x).all (okN n) = true) ∧ ∀ y, elems[i]? = some y → ∀ n, ((enc τ x).map (bN n)).sum ≤ Rows.uptoBulk y.1 := by
            intro i hi
            have h1 := hel i hi
            obtain ⟨y, hy⟩ : ∃ y, elems[i]? = some y := ⟨elems[i]'(by omega), List.getElem?_eq_getElem _⟩
            rw [hy] at h1
            obtain ⟨cs', h2, h3⟩ := Option.bind_eq_some_iff.1 h1
            obtain ⟨ds, hd, ht, hk, hb⟩ := ih e cs' y m (rtsOf τ) h3 hr
            obtain ⟨x, rfl⟩ := el_of_rts ht
            obtain ⟨-, hlc, hcell⟩ := World.cells?_some h2
            refine ⟨x, fun j d hj => ?_, hk, fun y' hy' n => by rw [hy] at hy'; cases hy'; exact hb n⟩
            obtain ⟨u, hu1, hu2⟩ := Each.get hd hj
            refine ⟨u, ?_, hu2⟩
            have hjl : j < cs'.length := (List.getElem?_eq_some_iff.1 hu1).1
            rw [← hc, ← Deep.add_add, hcell j (by omega), hu1]
          obtain ⟨xs, hxl, hxs⟩ := list_of one
          refine ⟨[.sl τ xs], ⟨?_, trivial⟩, ⟨⟨xs, rfl⟩, trivial⟩, fun n => ?_, fun n => ?_⟩
          rotate_left
          · cases n with
            | zero => rfl
            | succ n =>
              simp only [okN, List.all_cons, List.all_nil, Bool.and_true, List.all_eq_true (l := xs)]
              intro e he
              obtain ⟨i, hi⟩ := List.getElem?_of_mem he
              exact (hxs i e hi).2.1 n
          rotate_left
          · subst hxl
            cases xs with
            | nil => exact .z _ _ _ _
            | cons x xs =>
              obtain ⟨u, hu1, -⟩ := (hxs 0 x rfl).1 0 ((enc τ x)[0]'(by rw [enc_len]; exact sz_pos τ)) (List.getElem?_eq_getElem _)
              simp only [Nat.zero_mul, Nat.zero_add, Addr.add, if_true] at hu1
              obtain ⟨hlt, hsp⟩ := cells_lt hu1
              obtain ⟨ab, ao, asp⟩ := a
              simp only at hlt hsp
              subst hsp
              refine dr_mk hl (.inl (hS _ hlt)) fun i x' hx' j d hj => ?_
              obtain ⟨u, hu, hd⟩ := (hxs i x' hx').1 j d hj
              refine ⟨u, ?_, hd⟩
              rw [← hu]
              unfold Addr.add
              split
              · rename_i h0
                rw [show ao + i * τ.sz + j = ao by omega]
              · rw [show ao + i * τ.sz + j = ao + (i * τ.sz + j) by omega]
          · simp only [List.map_cons, List.map_nil, List.sum_cons, List.sum_nil, Nat.add_zero, Rows.uptoBulk]
            rw [bulkAll_sum, List.map_map]
            have he : ∀ (i : Nat) y, elems[i]? = some y → 1 ≤ Rows.uptoBulk y.1 := fun i y hy => by
              have hi : i < xs.length := by rw [hxl, ← hlen]; exact (List.getElem?_eq_some_iff.1 hy).1
              exact Nat.le_trans (sum_pos 0 enc_ne) ((hxs i xs[i] (List.getElem?_eq_getElem hi)).2.2 y hy 0)
            cases n with
            | zero =>
              have := len_le_of (l := xs) (m := elems) (g := fun y => Rows.uptoBulk y.1) (by omega) he
              simp only [bN]
              have e : (elems.map (Rows.uptoBulk ∘ fun x => x.1)).sum = (elems.map fun y => Rows.uptoBulk y.1).sum := rfl
              omega
            | succ n =>
              have := sum_le_of (l := xs) (m := elems) (f := fun e => ((enc τ e).map (bN n)).sum) (g := fun y => Rows.uptoBulk y.1) (by omega) fun i x y hx hy => (hxs i x hx).2.2 y hy n
              simp only [bN]
              have e : (elems.map (Rows.uptoBulk ∘ fun x => x.1)).sum = (elems.map fun y => Rows.uptoBulk y.1).sum := rfl
              omega
      · cases hr
    · rename_i fs hu
      obtain ⟨hc, hr⟩ := (Bool.and_eq_true _ _).mp hr
      have hc := eq_of_beq hc
      obtain ⟨xs, n, hn, rfl, hl, hxl, hf⟩ := DataW.trod_struct hu h
      cases hn
      have key : ∀ (fl : List Field) (xl : List (DataW H × List MemPlace)) (rts : List RD) (o : Nat), fldRd P (rdB P m) fl rts o = true → xl.length = fl.length → (cs.drop o).length = rts.length →
          (∀ (i : Nat) f, fl[i]? = some f → DataW.trod enc' P W 0 (fun _ => true) true fuel f.type ((cs.drop f.offset).take (P.cellsOf f.type)) = xl[i]?) →
            ∃ ds, Each (DR S lab W none) (cs.drop o) ds ∧ Each IsRD rts ds ∧ (∀ n, ds.all (okN n) = true) ∧ ∀ n, (ds.map (bN n)).sum ≤ (xl.map fun y => Rows.uptoBulk y.1).sum := by
        intro fl
        induction fl with
        | nil =>
          intro xl rts o h1 _ h3 _
          have h1 : rts = [] := by simpa [fldRd] using h1
          subst h1
          have h3 : cs.drop o = [] := List.eq_nil_of_length_eq_zero (by simpa using h3)
          rw [h3]
          exact ⟨[], trivial, trivial, fun _ => rfl, fun n => by simp⟩
        | cons f fl ihf =>
          intro xl rts o h1 h2 h3 h4
          simp only [fldRd, Bool.and_eq_true, beq_iff_eq] at h1
          obtain ⟨⟨⟨h5, h6⟩, h7⟩, h8⟩ := h1
          have h6 := Nat.le_of_ble_eq_true h6
          cases xl with
          | nil => simp at h2
          | cons y xl =>
          have h9 := h4 0 f rfl
          simp only [List.getElem?_cons_zero] at h9
          rw [h5] at h9
          obtain ⟨ds1, a1, a2, a4, a3⟩ := ih _ _ _ m _ h9 h7
          obtain ⟨ds2, b1, b2, b4, b3⟩ := ihf xl (rts.drop (P.cellsOf f.type)) (o + P.cellsOf f.type) h8 (by simpa using h2) (by simp at h3 ⊢; omega) fun i g hg => by simpa using h4 (i + 1) g (by simpa using hg)
          refine ⟨ds1 ++ ds2, ?_, ?_, fun n => by rw [List.all_append, a4 n, b4 n]; rfl, fun n => ?_⟩
          · rw [← List.take_append_drop (P.cellsOf f.type) (cs.drop o), List.drop_drop]
            exact Each.append a1 b1
          · rw [← List.take_append_drop (P.cellsOf f.type) rts]
            exact Each.append a2 b2
          · have := a3 n
            have := b3 n
            simp
            omega
      obtain ⟨ds, a1, a2, a4, a3⟩ := key fs.toList xs rts 0 hr (by simpa using hxl) (by simp; omega) fun i f hf' => hf i f (by simpa using hf')
      refine ⟨ds, by simpa using a1, a2, a4, fun n => Nat.le_trans (a3 n) ?_⟩
      simp only [Rows.uptoBulk]
      rw [bulkAll_sum, List.map_map]
      exact Nat.le_succ _
    · cases hr

def aggB (P : Program) (t : TypeId) : Bool := match P.underlying t with | some (.struct _) | some (.array _ _) => true | _ => false
def parB (P : Program) (t : TypeId) (p : Bool × List RD) : Bool := rdB P 9 t p.2 && (aggB P t == p.1) && (p.1 || match p.2 with | [_] => true | _ => false)
def IsPar (p : Bool × List RD) (g : Bool × List DV) : Prop := p.1 = g.1 ∧ Each IsRD p.2 g.2

theorem read_all {S : Nat → Prop} (hS : ∀ b, b < W.heap.size → S b) : ∀ {ts : List TypeId} {vs : List Value} {ds : List (DataW H)} {ps : List MemPlace} {pars : List (Bool × List RD)},
    DataW.TrodAll enc' P W 0 (fun _ => true) true ts vs ds ps → (∀ (j : Nat) t v, ts[j]? = some t → vs[j]? = some v → ∃ base, Value.okWide P W .any base t v) → Each (fun p t => parB P t p = true) pars ts →
      ∃ gs, Each (argR S W) vs gs ∧ Each IsPar pars gs ∧ (∀ n, (gs.flatMap (·.2)).all (okN n) = true) ∧ ∀ n, ((gs.flatMap (·.2)).map (bN n)).sum ≤ Rows.uptoBulkAll ds
  | [], [], [], ps, pars, h, hv, hp => by
    cases pars with
    | nil => exact ⟨[], trivial, trivial, fun _ => rfl, fun n => by simp⟩
    | cons _ _ => exact hp.elim
  | t :: ts, v :: vs, d :: ds, ps, pars, h, hv, hp => by
    obtain ⟨p, q, ⟨fuel, h1⟩, h2, rfl⟩ := h
    cases pars with
    | nil => exact hp.elim
    | cons pa pars =>
    obtain ⟨hp1, hp2⟩ := hp
    simp only [parB, Bool.and_eq_true, beq_iff_eq] at hp1
    obtain ⟨⟨k1, k2⟩, k3⟩ := hp1
    obtain ⟨xs, a1, a2, a4, a3⟩ := read_cells (S := S) (lab := fun _ => none) hS _ _ _ _ _ _ h1 k1
    obtain ⟨gs, b1, b2, b4, b3⟩ := read_all hS h2 (fun j t v ht hv' => hv (j + 1) t v (by simpa using ht) (by simpa using hv')) hp2
    obtain ⟨base, hok⟩ := hv 0 t v rfl rfl
    refine ⟨(pa.1, xs) :: gs, ⟨?_, b1⟩, ⟨⟨rfl, a2⟩, b2⟩, fun n => by rw [List.flatMap_cons, List.all_append, a4 n, b4 n]; rfl, fun n => ?_⟩
    · unfold aggB at k2
      obtain ⟨ag, rts⟩ := pa
      simp only at k2 a2 k1 k3
      subst k2
      have agg : ∀ cs, v = .agg cs → argR S W v (true, xs) := fun cs hcs => by
        subst hcs
        exact ⟨cs, rfl, by simpa [Value.cells] using a1⟩
      have other : (∀ cs, v ≠ .agg cs) → argR S W v (false, xs) := fun hne => by
        have : v.cells.toList = [v] := by cases v <;> first | rfl | exact absurd rfl (hne _)
        rw [this] at a1
        exact a1
      split
      · rename_i fs hu
        simp only [Value.okWide, hu] at hok
        obtain ⟨cs, rfl, -⟩ := hok
        exact agg cs rfl
      · rename_i fs hu
        simp only [Value.okWide, hu] at hok
        obtain ⟨cs, rfl, -⟩ := hok
        exact agg cs rfl
      · rename_i h3 h4
        refine other fun cs hcs => ?_
        subst hcs
        unfold rdB at k1
        split at k1
        · rename_i k hu; obtain ⟨n, hn⟩ := okWide_int hu hok; cases hn
        · rename_i hu; obtain ⟨n, hn⟩ := okWide_bool hu hok; cases hn
        · rename_i hu; obtain ⟨n, hn⟩ := okWide_string hu hok; cases hn
        · rename_i e hu; obtain ⟨_, _, _, hn⟩ := okWide_slice hu hok; cases hn
        · rename_i fs hu; exact h3 fs hu
        · cases k1
    · have : (xs.map (bN n)).sum ≤ Rows.uptoBulk d := a3 n
      have := b3 n
      simp only [List.flatMap_cons, List.map_append, List.sum_append, Rows.uptoBulkAll]
      omega
  | [], _ :: _, _, _, _, h, _, _ => h.elim
  | [], [], _ :: _, _, _, h, _, _ => h.elim
  | _ :: _, [], _, _, _, h, _, _ => h.elim
  | _ :: _, _ :: _, [], _, _, h, _, _ => h.elim
end
end Ai
end Go.Proofs.Ytfjdfbdiichhdaa
