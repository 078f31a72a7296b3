/-
  The abstract interpreter: deep typed values, abstract memory, and the operations of the model's code on them. Conditions: none (definitions alone).
-/
import Derived.Orders
import Derived.RowKit3
namespace Go.Proofs.Ytfjdfbdiichhdaa
open Go
namespace Ai

/- 1. The program's own data, as plain Lean structures. -/
structure Row where
  k : Int
  v : Int
  w : Int
  deriving DecidableEq
structure Cli where
  id : Int
  req : Int
  pri : Int
  deriving DecidableEq
structure Pair where
  l : Row
  r : Row
  m : Bool
  deriving DecidableEq
structure Grp where
  key : Int
  cnt : Int
  sum : Int
  mn : Int
  mx : Int
  deriving DecidableEq
structure Tsk where
  kind : Int
  left : List Row
  right : List Row
  mat : List Bool
  lvl : Int
  deriving DecidableEq
structure GTk where
  rows : List Row
  lvl : Int
  deriving DecidableEq
structure Srt where
  input : List Row
  pos : Int
  heap : List Row
  defd : List Row
  outp : List Row
  runs : List (List Row)
  lp : Int
  rp : Int
  phase : Int
  wr : Int
  deriving DecidableEq
structure Jnr where
  pend : List Tsk
  wr : Int
  parts : Int
  deriving DecidableEq
structure Agr where
  pend : List GTk
  wr : Int
  early : Bool
  deriving DecidableEq
structure Opr where
  kind : Int
  s : Srt
  j : Jnr
  a : Agr
  deriving DecidableEq
structure Out where
  rows : List Row
  pairs : List Pair
  grps : List Grp
  deriving DecidableEq
structure Slt where
  id : Int
  op : Opr
  out : Out
  done : Bool
  deriving DecidableEq

inductive STy where
  | row | run | int | bool | byte | str | cli | clis | pair | grp | tsk | gtk | slt
  deriving DecidableEq

abbrev Str := List UInt8

@[reducible] def El : STy → Type
  | .row => Row | .run => List Row | .int => Int | .bool => Bool | .byte => Int | .str => Str
  | .cli => Cli | .clis => List Cli | .pair => Pair | .grp => Grp | .tsk => Tsk | .gtk => GTk | .slt => Slt

/- A deep value of one cell. -/
inductive DV where
  | b (b : Bool)
  | i (k : IntKind) (n : Int)
  | s (s : Str)
  | sl (τ : STy) (xs : List (El τ))

@[reducible] def encRow (r : Row) : List DV := [.i .i64 r.k, .i .i64 r.v, .i .i64 r.w]
@[reducible] def encSrt (s : Srt) : List DV :=
  [.sl .row s.input, .i .i64 s.pos, .sl .row s.heap, .sl .row s.defd, .sl .row s.outp, .sl .run s.runs, .i .i64 s.lp, .i .i64 s.rp, .i .i64 s.phase, .i .i64 s.wr]
@[reducible] def encJnr (j : Jnr) : List DV := [.sl .tsk j.pend, .i .i64 j.wr, .i .i64 j.parts]
@[reducible] def encAgr (a : Agr) : List DV := [.sl .gtk a.pend, .i .i64 a.wr, .b a.early]

def enc : (τ : STy) → El τ → List DV
  | .row, r => [.i .i64 r.k, .i .i64 r.v, .i .i64 r.w]
  | .run, r => [.sl .row r]
  | .int, n => [.i .i64 n]
  | .bool, b => [.b b]
  | .byte, n => [.i .u8 n]
  | .str, s => [.s s]
  | .cli, c => [.i .i64 c.id, .i .i64 c.req, .i .i64 c.pri]
  | .clis, l => [.sl .cli l]
  | .pair, p => [.i .i64 p.l.k, .i .i64 p.l.v, .i .i64 p.l.w, .i .i64 p.r.k, .i .i64 p.r.v, .i .i64 p.r.w, .b p.m]
  | .grp, g => [.i .i64 g.key, .i .i64 g.cnt, .i .i64 g.sum, .i .i64 g.mn, .i .i64 g.mx]
  | .tsk, t => [.i .i64 t.kind, .sl .row t.left, .sl .row t.right, .sl .bool t.mat, .i .i64 t.lvl]
  | .gtk, t => [.sl .row t.rows, .i .i64 t.lvl]
  | .slt, s => [.i .i64 s.id, .i .i64 s.op.kind,
      .sl .row s.op.s.input, .i .i64 s.op.s.pos, .sl .row s.op.s.heap, .sl .row s.op.s.defd, .sl .row s.op.s.outp, .sl .run s.op.s.runs, .i .i64 s.op.s.lp, .i .i64 s.op.s.rp, .i .i64 s.op.s.phase, .i .i64 s.op.s.wr,
      .sl .tsk s.op.j.pend, .i .i64 s.op.j.wr, .i .i64 s.op.j.parts, .sl .gtk s.op.a.pend, .i .i64 s.op.a.wr, .b s.op.a.early,
      .sl .row s.out.rows, .sl .pair s.out.pairs, .sl .grp s.out.grps, .b s.done]

def dec : (τ : STy) → List DV → Option (El τ)
  | .row, [.i .i64 a, .i .i64 b, .i .i64 c] => some ⟨a, b, c⟩
  | .run, [.sl .row l] => some l
  | .int, [.i .i64 n] => some n
  | .bool, [.b b] => some b
  | .byte, [.i .u8 n] => some n
  | .str, [.s s] => some s
  | .cli, [.i .i64 a, .i .i64 b, .i .i64 c] => some ⟨a, b, c⟩
  | .clis, [.sl .cli l] => some l
  | .pair, [.i .i64 a, .i .i64 b, .i .i64 c, .i .i64 d, .i .i64 e, .i .i64 f, .b m] => some ⟨⟨a, b, c⟩, ⟨d, e, f⟩, m⟩
  | .grp, [.i .i64 a, .i .i64 b, .i .i64 c, .i .i64 d, .i .i64 e] => some ⟨a, b, c, d, e⟩
  | .tsk, [.i .i64 a, .sl .row b, .sl .row c, .sl .bool d, .i .i64 e] => some ⟨a, b, c, d, e⟩
  | .gtk, [.sl .row b, .i .i64 e] => some ⟨b, e⟩
  | .slt, [.i .i64 id, .i .i64 kd, .sl .row s0, .i .i64 s1, .sl .row s2, .sl .row s3, .sl .row s4, .sl .run s5, .i .i64 s6, .i .i64 s7, .i .i64 s8, .i .i64 s9,
      .sl .tsk j0, .i .i64 j1, .i .i64 j2, .sl .gtk a0, .i .i64 a1, .b a2, .sl .row o0, .sl .pair o1, .sl .grp o2, .b dn] =>
      some ⟨id, ⟨kd, ⟨s0, s1, s2, s3, s4, s5, s6, s7, s8, s9⟩, ⟨j0, j1, j2⟩, ⟨a0, a1, a2⟩⟩, ⟨o0, o1, o2⟩, dn⟩
  | _, _ => none

/- Cells an element takes. -/
def STy.sz : STy → Nat
  | .row => 3 | .run => 1 | .int => 1 | .bool => 1 | .byte => 1 | .str => 1 | .cli => 3 | .clis => 1 | .pair => 7 | .grp => 5 | .tsk => 5 | .gtk => 2 | .slt => 22
/- Bytes an element takes (for the room that append and make ask for). -/
def STy.by : STy → Nat
  | .row => 24 | .run => 24 | .int => 8 | .bool => 1 | .byte => 1 | .str => 16 | .cli => 24 | .clis => 24 | .pair => 56 | .grp => 40 | .tsk => 88 | .gtk => 32 | .slt => 384
/- No slice among its cells. -/
def STy.flat : STy → Bool
  | .row | .int | .bool | .byte | .str | .cli | .pair | .grp => true
  | _ => false

/- 2. Abstract values. Keys number slots (below the function's ntmps) and objects (from there on). -/
abbrev Key := Nat
inductive A0 where
  | d (v : DV)                       -- a deep value that only is read
  | nil                              -- the nil slice
  | ls (x off : Nat) (len : Option Nat)   -- a slice of the object x (no length: to its end)
  | bp (x off : Nat)                 -- a pointer into the box x
  | ep (x i off : Nat)               -- a pointer into element i of the object x
  | fp (cs : List DV)                -- a pointer to cells that only are read
  | uv                               -- what an operation that was left out yields
  | und                              -- nothing is known
inductive AV where
  | one (a : A0)
  | agg (cs : List A0)
  | tup (vs : List (Bool × List A0))
  | clo (f : Nat) (caps : List A0)
inductive C where
  | av (v : AV)
  | box (cs : List A0)
  | arr (τ : STy) (own : Bool) (xs : List (El τ))
  | fz (τ : STy) (xs : List (El τ))

def solid : A0 → Bool
  | .uv | .und => false
  | _ => true
def AV.cells : AV → List A0
  | .one a => bif solid a then [a] else []
  | .agg cs => cs
  | _ => []

abbrev Mem := Key → C
def cU : C := .av (.one .und)
def upd (m : Mem) (k : Key) (c : C) : Mem := fun j => bif Nat.beq j k then c else m j
def upds (m : Mem) : List (Key × C) → Mem
  | [] => m
  | (k, c) :: r => upds (upd m k c) r

abbrev Res := Option (List (Bool × DV))

/- 3. A small language for what an operation does: it reads keys, asks conditions, and ends in a value and writes. -/
inductive RM where
  | ret (v : AV) (ws : List (Key × C))
  | get (k : Key) (f : C → RM)
  | idx (τ : STy) (o : Option (El τ)) (f : El τ → RM)
  | grd (b : Bool) (f : RM)
  | fail

def RM.run (m : Mem) : RM → List Key → (AV → List (Key × C) → List Key → Res) → Res
  | .ret v ws, rd, k => k v ws rd
  | .get a f, rd, k => (f (m a)).run m (a :: rd) k
  | .idx _ o f, rd, k => Option.bind o fun e => (f e).run m rd k
  | .grd b f, rd, k => cond b (f.run m rd k) none
  | .fail, _, _ => none

def RM.bind : RM → (AV → List (Key × C) → RM) → RM
  | .ret v ws, g => g v ws
  | .get a f, g => .get a fun c => (f c).bind g
  | .idx τ o f, g => .idx τ o fun e => (f e).bind g
  | .grd b f, g => .grd b (f.bind g)
  | .fail, _ => .fail

end Ai
end Go.Proofs.Ytfjdfbdiichhdaa
