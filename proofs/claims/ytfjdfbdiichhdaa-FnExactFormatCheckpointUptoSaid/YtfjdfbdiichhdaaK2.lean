/-
  The abstract interpreter, second part: each operation as a small program over keys, and the walk through code. Conditions: none (definitions alone).
-/
import Derived.Test.YtfjdfbdiichhdaaK1
namespace Go.Proofs.Ytfjdfbdiichhdaa
open Go
namespace Ai

/- 4. Tables. -/
inductive CT where
  | sc
  | sl (τ : STy)
  | ot
structure TI where
  agg : Bool
  flds : List (Nat × Nat)
  zero : List A0
  cts : List CT
  el : Option (STy × List CT × List A0)   -- of a slice type: the element's type, its cells' kinds, its zero cells
  ik : Option IntKind
  str : Bool
  bl : Bool
  eqk : Bool     -- a struct of int fields, one cell each, that == compares field by field
def lk {α : Type} (n : Nat) : List (Nat × α) → Option α
  | [] => none
  | (k, a) :: r => bif Nat.beq k n then some a else lk n r

/- What is kept of a slot at a loop's head or a block's end. -/
inductive SK where
  | p                                -- a value without references
  | a (τ : STy) (nk : Key)           -- a slice of an object, or nil: the object moves to nk
  | bx (nk : Key) (cs : List (Option (STy × Key)))   -- a pointer to a box, which moves to nk; its cells: none: no references; (τ, nk'): a slice

structure Env where
  tys : List (Nat × TI)
  fns : List (Nat × (Key → List AV → RM))
  ann : List (Nat × (List (Nat × SK) × Key))
  fuel : Nat
  nt : Nat       -- the function's slots
  pin : Nat := 0 -- the first keys behind the slots that are objects lent by the caller: they stay where they are

def Env.ty (E : Env) (t : Nat) (f : TI → RM) : RM := match lk t E.tys with | some i => f i | none => .fail

/- 5. Plain functions that the operations use. -/
def geti {α : Type} (xs : List α) (i : Int) : Option α := if 0 ≤ i then xs[i.toNat]? else none
def gets (s : Str) (i : Int) : Option Int := (geti s i).map fun c => (c.toNat : Int)
def nz : Int → Bool
  | .ofNat 0 => false
  | _ => true
def lim (n : Nat) : Bool := decide (n ≤ 68719476736)
def bitI (op : BinOp) (k : IntKind) (x y : Int) : Int :=
  match op with
  | .and => k.wrap (BitVec.ofInt k.bits x &&& BitVec.ofInt k.bits y).toNat
  | .or => k.wrap (BitVec.ofInt k.bits x ||| BitVec.ofInt k.bits y).toNat
  | _ => k.wrap (BitVec.ofInt k.bits x ^^^ BitVec.ofInt k.bits y).toNat
def shlI (k : IntKind) (x y : Int) : Int := k.wrap (x * 2 ^ (min y.toNat k.bits))
def shrI (k : IntKind) (x y : Int) : Int := x.fdiv (2 ^ (min y.toNat k.bits))
def toStr (xs : List Int) : Str := xs.map fun n => UInt8.ofNat n.toNat
def sub {α : Type} (ys : List α) (off : Nat) : Option Nat → List α
  | none => ys.drop off
  | some n => (ys.drop off).take n

def constA0 : Value → A0
  | .bool b => .d (.b b)
  | .int k n => .d (.i k n)
  | .string s => .d (.s s.data.toList)
  | .slice none 0 0 => .nil
  | _ => .und
def constAV : Value → AV
  | .agg cs => .agg (cs.toList.map constA0)
  | v => .one (constA0 v)

def one (a : A0) : RM := .ret (.one a) []
def dv (v : DV) : RM := .ret (.one (.d v)) []

def opd (x : Operand) (f : AV → RM) : RM :=
  match x with
  | .tmp t => .get t fun c => match c with | .av v => f v | _ => .fail
  | .const v => f (constAV v)
  | .func g => f (.clo g [])
  | .global _ => .fail
def opds : List Operand → (List AV → RM) → RM
  | [], f => f []
  | x :: r, f => opd x fun v => opds r fun vs => f (v :: vs)

/- A value of one cell. -/
def A0.k (a : AV) (f : A0 → RM) : RM := match a with | .one a => f a | _ => .fail
def intK (a : AV) (f : IntKind → Int → RM) : RM := match a with | .one (.d (.i k n)) => f k n | _ => .fail

/- 6. Taking cells into a tree: deep cells, whether all of it is owned, and the objects that now only are read. -/
def absorb : List A0 → List CT → (List DV → Bool → List (Key × C) → RM) → RM
  | [], _, f => f [] true []
  | .d (.sl τ xs) :: r, ct, f => absorb r ct.tail fun ds _ ws => f (.sl τ xs :: ds) false ws
  | .d v :: r, ct, f => absorb r ct.tail fun ds o ws => f (v :: ds) o ws
  | .nil :: r, ct, f => match ct with
    | .sl τ :: cr => absorb r cr fun ds o ws => f (.sl τ [] :: ds) o ws
    | _ => .fail
  | .ls x off len :: r, ct, f => .get x fun c => match c with
    | .arr τ own xs => absorb r ct.tail fun ds o ws => f (.sl τ (sub xs off len) :: ds) (own && o) ((x, .fz τ xs) :: ws)
    | .fz τ xs => absorb r ct.tail fun ds _ ws => f (.sl τ (sub xs off len) :: ds) false ws
    | _ => .fail
  | _ :: _, _, _ => .fail
/- Reading cells deep (arguments of calls). -/
def deep : List A0 → List CT → (List DV → RM) → RM
  | [], _, f => f []
  | .d v :: r, ct, f => deep r ct.tail fun ds => f (v :: ds)
  | .nil :: r, ct, f => match ct with
    | .sl τ :: cr => deep r cr fun ds => f (.sl τ [] :: ds)
    | _ => .fail
  | .ls x off len :: r, ct, f => .get x fun c => match c with
    | .arr τ _ xs => deep r ct.tail fun ds => f (.sl τ (sub xs off len) :: ds)
    | .fz τ xs => deep r ct.tail fun ds => f (.sl τ (sub xs off len) :: ds)
    | _ => .fail
  | _ :: _, _, _ => .fail
def nodupB : List Key → Bool
  | [] => true
  | k :: r => (r.all fun j => !Nat.beq k j) && nodupB r

def mkElem (τ : STy) (ds : List DV) (f : El τ → RM) : RM := match dec τ ds with | some e => f e | none => .fail

def cutAt {α : Type} (cs : List α) (off n : Nat) : List α := (cs.drop off).take n
def putAt {α : Type} (cs : List α) (off : Nat) (new : List α) : List α := cs.take off ++ new ++ cs.drop (off + new.length)

/- The value of a variable of a type, out of its cells. -/
def asVal (i : TI) (cs : List A0) : RM := bif !Nat.beq cs.length i.cts.length then .fail else bif i.agg then .ret (.agg cs) [] else match cs with | [a] => .ret (.one a) [] | _ => .fail

def loadR (E : Env) (t : Nat) (p : A0) : RM := E.ty t fun i => match p with
  | .bp x off => .get x fun c => match c with | .box cs => asVal i (cutAt cs off i.cts.length) | _ => .fail
  | .ep x j off => .get x fun c => match c with
    | .arr τ _ xs => .idx τ xs[j]? fun e => asVal i ((cutAt (enc τ e) off i.cts.length).map .d)
    | .fz τ xs => .idx τ xs[j]? fun e => asVal i ((cutAt (enc τ e) off i.cts.length).map .d)
    | _ => .fail
  | .fp cs => asVal i ((cutAt cs 0 i.cts.length).map .d)
  | _ => .fail
def storeR (E : Env) (t : Nat) (p : A0) (v : AV) : RM := E.ty t fun i => bif !(Nat.beq v.cells.length i.cts.length && v.cells.all solid) then .fail else match p with
  | .bp x off => .get x fun c => match c with
    | .box cs => .grd (decide (off + i.cts.length ≤ cs.length)) (.ret (.one .uv) [(x, .box (putAt cs off v.cells))])
    | _ => .fail
  | .ep x j off => .get x fun c => match c with
    | .arr τ own xs => .idx τ xs[j]? fun e => absorb v.cells i.cts fun ds o ws => bif !nodupB (x :: ws.map (·.1)) then .fail else
        mkElem τ (putAt (enc τ e) off ds) fun e' => .ret (.one .uv) (ws ++ [(x, .arr τ (τ.flat || own && o) (xs.set j e'))])
    | _ => .fail
  | _ => .fail

def fieldR (o : Nat) : A0 → RM
  | .bp x off => .get x fun c => match c with | .box _ => one (.bp x (off + o)) | _ => .fail
  | .ep x i off => .get x fun c => match c with | .arr _ _ _ | .fz _ _ => one (.ep x i (off + o)) | _ => .fail
  | .fp cs => one (.fp (cs.drop o))
  | _ => .fail

def indexAddrR (σ : STy) (x : A0) (i : Int) : RM := match x with
  | .d (.sl τ xs) => bif Nat.beq τ.sz σ.sz then .idx τ (geti xs i) fun e => one (.fp (enc τ e)) else .fail
  | .ls x off len => .get x fun c => match c with
    | .arr τ _ xs => bif Nat.beq τ.sz σ.sz then .grd (decide (0 ≤ i) && decide (i.toNat < (sub xs off len).length)) (one (.ep x (off + i.toNat) 0)) else .fail
    | .fz τ xs => bif Nat.beq τ.sz σ.sz then .grd (decide (0 ≤ i) && decide (i.toNat < (sub xs off len).length)) (one (.ep x (off + i.toNat) 0)) else .fail
    | _ => .fail
  | _ => .fail

def boundsK (len : Nat) (lo hi : Option AV) (f : Option Nat → Option Nat → RM) : RM :=
  match hi with
  | none => match lo with
    | none => f none none
    | some l => intK l fun _ l => .grd (decide (0 ≤ l) && decide (l ≤ len)) (f (some l.toNat) none)
  | some h => intK h fun _ h => .grd (decide (0 ≤ h) && decide (h ≤ len)) (match lo with
    | none => f none (some h.toNat)
    | some l => intK l fun _ l => .grd (decide (0 ≤ l) && decide (l ≤ h)) (f (some l.toNat) (some h.toNat)))
def cutL {α : Type} (xs : List α) : Option Nat → Option Nat → List α
  | none, none => xs
  | some l, none => xs.drop l
  | none, some h => xs.take h
  | some l, some h => (xs.take h).drop l
def lsCut (x off : Nat) (len : Option Nat) : Option Nat → Option Nat → RM
  | none, none => one (.ls x off len)
  | some l, none => one (.ls x (off + l) (match len with | none => none | some n => some (n - l)))
  | none, some h => one (.ls x off (some h))
  | some l, some h => one (.ls x (off + l) (some (h - l)))
def sliceR (i : TI) (x : A0) (lo hi : Option AV) : RM := match x with
  | .d (.s s) => bif i.str then boundsK s.length lo hi fun l h => dv (.s (cutL s l h)) else .fail
  | .d (.sl τ xs) => match i.el with
    | some (σ, _) => bif Nat.beq τ.sz σ.sz then boundsK xs.length lo hi fun l h => dv (.sl τ (cutL xs l h)) else .fail
    | none => .fail
  | .nil => match i.el with | some _ => boundsK 0 lo hi fun _ _ => one .nil | none => .fail
  | .ls x off len => match i.el with
    | none => .fail
    | some (σ, _) => .get x fun c => match c with
      | .arr τ _ xs => bif Nat.beq τ.sz σ.sz then boundsK (sub xs off len).length lo hi (lsCut x off len) else .fail
      | .fz τ xs => bif Nat.beq τ.sz σ.sz then boundsK (sub xs off len).length lo hi (lsCut x off len) else .fail
      | _ => .fail
  | _ => .fail

def lenR (i : TI) : A0 → RM
  | .d (.s s) => bif i.str then dv (.i .i64 s.length) else .fail
  | .d (.sl _ xs) => match i.el with | some _ => dv (.i .i64 xs.length) | none => .fail
  | .nil => match i.el with | some _ => dv (.i .i64 0) | none => .fail
  | .ls x off len => match i.el with
    | some _ => .get x fun c => match c with
      | .arr _ _ xs => dv (.i .i64 (sub xs off len).length)
      | .fz _ xs => dv (.i .i64 (sub xs off len).length)
      | _ => .fail
    | none => .fail
  | _ => .fail

/- What is appended: its elements, whether they are owned, and what becomes of the object that held them. -/
def srcK (τ : STy) (y : A0) (avoid : Key) (f : List (El τ) → Bool → List (Key × C) → RM) : RM := match y with
  | .nil => f [] true []
  | .d (.sl σ ys) => if h : σ = τ then f (h ▸ ys) τ.flat [] else .fail
  | .ls y off len => bif Nat.beq y avoid then .fail else .get y fun c => match c with
    | .arr σ own ys => if h : σ = τ then f (h ▸ sub ys off len) (τ.flat || own) (bif τ.flat then [] else [(y, .arr σ false ys)]) else .fail
    | .fz σ ys => if h : σ = τ then f (h ▸ sub ys off len) τ.flat [] else .fail
    | _ => .fail
  | _ => .fail
def appendR (nk : Key) (τ : STy) (x y : A0) : RM := match x with
  | .nil => srcK τ y nk fun ys o ws => .grd (lim ys.length) (.ret (.one (.ls nk 0 none)) (ws ++ [(nk, .arr τ (τ.flat || o) ys)]))
  | .ls x off len => .get x fun c => match c with
    | .arr σ own xs => if h : σ = τ then
        let go : RM := srcK τ y x fun ys o ws =>
          .grd (lim ((sub (h ▸ xs : List (El τ)) off none).length + ys.length)) (.ret (.one (.ls nk 0 none)) (ws ++ [(x, cU), (nk, .arr τ (τ.flat || own && o) (sub (h ▸ xs : List (El τ)) off none ++ ys))]))
        match len with
        | none => go
        | some n => .grd (decide (off + n = xs.length)) go
      else .fail
    | _ => .fail
  | _ => .fail

def buildElems (nk : Key) (τ : STy) (cts : List CT) : List (Nat × AV) → Nat → (List (El τ) → Bool → List (Key × C) → RM) → RM
  | [], _, f => f [] true []
  | (j, v) :: r, i, f => bif !Nat.beq i j then .fail else
      bif !Nat.beq v.cells.length cts.length then .fail else
      absorb v.cells cts fun ds o ws => mkElem τ ds fun e => buildElems nk τ cts r (i + 1) fun es o' ws' => f (e :: es) (o && o') (ws ++ ws')

def fillA (zero : List A0) (flds : List (Nat × Nat)) : List (Nat × AV) → Option (List A0)
  | [] => some zero
  | (f, v) :: r => match flds[f]? with
    | some (off, n) => bif Nat.beq v.cells.length n && Nat.ble (off + n) zero.length && Nat.blt 0 n then fillA (putAt zero off v.cells) flds r else none
    | none => none

/- 7. Two operands. -/
def eqDV : DV → DV → Option Bool
  | .i .i64 a, .i .i64 b => some (decide (a = b))
  | _, _ => none
def eqCells : List A0 → List A0 → Option Bool
  | [], [] => some true
  | .d a :: r, .d b :: r' => match eqDV a b with
    | some e => match eqCells r r' with | some e' => some (e && e') | none => none
    | none => none
  | _, _ => none
def binInt (op : BinOp) (k : IntKind) (a b : Int) : RM := match op with
  | .add => dv (.i k (k.wrap (a + b)))
  | .sub => dv (.i k (k.wrap (a - b)))
  | .mul => dv (.i k (k.wrap (a * b)))
  | .quo => .grd (nz b) (dv (.i k (k.wrap (a.tdiv b))))
  | .rem => .grd (nz b) (dv (.i k (a.tmod b)))
  | .and => dv (.i k (bitI .and k a b))
  | .or => dv (.i k (bitI .or k a b))
  | .xor => dv (.i k (bitI .xor k a b))
  | .eql => dv (.b (decide (a = b)))
  | .neq => dv (.b (!decide (a = b)))
  | .lss => dv (.b (decide (a < b)))
  | .leq => dv (.b (decide (a ≤ b)))
  | .gtr => dv (.b (decide (a > b)))
  | .geq => dv (.b (decide (a ≥ b)))
  | _ => .fail
def kbeq (a b : IntKind) : Bool := match a, b with
  | .i64, .i64 | .u8, .u8 | .u64, .u64 | .i32, .i32 => true
  | _, _ => false
def binR (E : Env) (t : Nat) (op : BinOp) (x y : AV) : RM := match x, y with
  | .one (.d (.i k a)), .one (.d (.i k' b)) => match op with
    | .shl => .grd (decide (0 ≤ b)) (dv (.i k (shlI k a b)))
    | .shr => .grd (decide (0 ≤ b)) (dv (.i k (shrI k a b)))
    | _ => bif kbeq k k' then binInt op k a b else .fail
  | .one (.d (.s a)), .one (.d (.s b)) => match op with
    | .add => .grd (lim (a.length + b.length)) (dv (.s (a ++ b)))
    | .eql => dv (.b (decide (a = b)))
    | .neq => dv (.b (!decide (a = b)))
    | _ => .fail
  | .one (.d (.b a)), .one (.d (.b b)) => E.ty t fun i => bif !i.bl then .fail else match op with
    | .eql => dv (.b (decide (a = b)))
    | .neq => dv (.b (!decide (a = b)))
    | _ => .fail
  | .agg xs, .agg ys => E.ty t fun i => bif !(i.eqk && Nat.beq xs.length i.cts.length) then .fail else match eqCells xs ys with
    | some e => match op with
      | .eql => dv (.b e)
      | .neq => dv (.b (!e))
      | _ => .fail
    | none => .fail
  | _, _ => .fail
def unR (op : UnOp) (x : AV) : RM := match op, x with
  | .not, .one (.d (.b b)) => dv (.b (!b))
  | .neg, .one (.d (.i k n)) => dv (.i k (k.wrap (0 - n)))
  | _, _ => .fail
def convR (s i : TI) (x : AV) : RM := match x with
  | .one (.d (.i _ n)) => match i.ik with | some k => dv (.i k (k.wrap n)) | none => .fail
  | .one (.d (.s l)) => bif i.str then dv (.s l) else .fail
  | .one (.ls x off len) => match s.el with
    | some (.byte, _) => bif i.str then .get x fun c => match c with
        | .arr .byte _ xs => dv (.s (toStr (sub xs off len)))
        | _ => .fail
      else .fail
    | _ => .fail
  | _ => .fail

def tyEl (E : Env) (t : Nat) (f : STy → RM) : RM := E.ty t fun i => match i.el with | some e => f e.1 | none => .fail

def callR (E : Env) (nk : Key) (f : Nat) (args : List AV) : RM := match lk f E.fns with | some g => g nk args | none => .fail

def parts (ps : List (Nat × Operand)) (f : List (Nat × AV) → RM) : RM := opds (ps.map (·.2)) fun vs => f ((ps.map (·.1)).zip vs)
def optK (x : Option Operand) (f : Option AV → RM) : RM := match x with | none => f none | some x => opd x fun v => f (some v)

def ones : List AV → Option (List A0)
  | [] => some []
  | .one a :: r => match ones r with | some cs => some (a :: cs) | none => none
  | _ :: _ => none
def opRM (E : Env) (nk : Key) (o : Op) : RM := match o with
  | .move x | .assign x => opd x fun v => .ret v []
  | .pick c a b => opd c fun c => opd a fun a => opd b fun b => match c with
    | .one (.d (.b true)) => .ret a []
    | .one (.d (.b false)) => .ret b []
    | _ => .fail
  | .alloc t => E.ty t fun i => .ret (.one (.bp nk 0)) [(nk, .box i.zero)]
  | .box t x => E.ty t fun i => opd x fun v => bif Nat.beq v.cells.length i.cts.length then .ret (.one (.bp nk 0)) [(nk, .box v.cells)] else .fail
  | .build t ps => E.ty t fun i => bif i.flds.isEmpty then .fail else parts ps.toList fun vs => match fillA i.zero i.flds vs with | some cs => .ret (.agg cs) [] | none => .fail
  | .buildSlice t n ps => E.ty t fun i => match i.el with
    | none => .fail
    | some (τ, ect, _) => bif !(Nat.beq n ps.size && Nat.ble (n * τ.sz) 16777216) then .fail else
        parts ps.toList fun vs => buildElems nk τ ect vs 0 fun es o ws =>
          bif nodupB (nk :: ws.map (·.1)) then .ret (.one (.ls nk 0 none)) (ws ++ [(nk, .arr τ (τ.flat || o) es)]) else .fail
  | .load t a => opd a fun p => A0.k p fun p => loadR E t p
  | .store t a v => opd a fun p => opd v fun v => A0.k p fun p => storeR E t p v
  | .nilCheck x => opd x fun p => match p with
    | .one (.bp x _) => .get x fun c => match c with | .box _ => .ret p [] | _ => .fail
    | .one (.fp _) => .ret p []
    | _ => .fail
  | .binOp op t x y _ => opd x fun x => opd y fun y => binR E t op x y
  | .unOp op _ x => opd x fun x => unR op x
  | .convert s d x => E.ty s fun s => E.ty d fun i => opd x fun x => convR s i x
  | .makeFunc (.func f) first caps => bif Nat.beq first.size 0 then opds caps.toList fun vs => match ones vs with | some cs => .ret (.clo f cs) [] | none => .fail
      else .fail
  | .makeSlice t l c => E.ty t fun i => match i.el with
    | none => .fail
    | some (τ, ect, ez) => opd l fun l => opd c fun c => intK l fun _ l => intK c fun _ c =>
        .grd (decide (0 ≤ l) && decide (l ≤ c) && lim c.toNat) (absorb ez ect fun ds o _ => mkElem τ ds fun e =>
          .ret (.one (.ls nk 0 none)) [(nk, .arr τ (τ.flat || o) (List.replicate l.toNat e))])
  | .slice t x lo hi none => E.ty t fun i => opd x fun x => A0.k x fun x => optK lo fun lo => optK hi fun hi => sliceR i x lo hi
  | .fieldAddr t x f => E.ty t fun i => opd x fun p => A0.k p fun p => match i.flds[f]? with | some (o, _) => fieldR o p | none => .fail
  | .indexAddr t x i => tyEl E t fun σ => opd x fun x => opd i fun i => A0.k x fun x => intK i fun _ i => indexAddrR σ x i
  | .index t x i => E.ty t fun ti => opd x fun x => opd i fun i => A0.k x fun x => intK i fun _ i => bif !ti.str then .fail else match x with
    | .d (.s s) => .idx .byte (gets s i) fun c => dv (.i .u8 c)
    | _ => .fail
  | .extract x n => opd x fun v => match v with
    | .tup vs => match vs[n]? with
      | some (true, cs) => .ret (.agg cs) []
      | some (false, cs) => match cs with | [a] => .ret (.one a) [] | _ => .fail
      | none => .fail
    | _ => .fail
  | .call c => match c.callee with
    | .builtin .len => match c.argTypes.toList with
      | [t] => E.ty t fun i => opds c.args.toList fun vs => match vs with | [v] => A0.k v (lenR i) | _ => .fail
      | _ => .fail
    | .builtin .append => match c.argTypes.toList with
      | [t, u] => tyEl E t fun τ => tyEl E u fun _ => opds c.args.toList fun vs => match vs with
        | [x, y] => A0.k x fun x => A0.k y fun y => appendR nk τ x y
        | _ => .fail
      | _ => .fail
    | .builtin .min => opds c.args.toList fun vs => match vs with
      | [x, y] => intK x fun k a => intK y fun _ b => dv (.i k (if b < a then b else a))
      | _ => .fail
    | .builtin .max => opds c.args.toList fun vs => match vs with
      | [x, y] => intK x fun k a => intK y fun _ b => dv (.i k (if b > a then b else a))
      | _ => .fail
    | .builtin _ => .fail
    | .value f => opd f fun f => opds c.args.toList fun vs => match f with
      | .clo g caps => callR E nk g (vs ++ caps.map .one)
      | _ => .fail
    | .invoke _ _ => .fail
  | _ => .fail

/- 8. The walk. A trace row: the operation's place, the keys it read, the keys it wrote. -/
structure TrE where
  i : Nat
  rd : List Key
  wr : List Key

def lit (b : Bool) : C := .av (.one (.d (.b b)))
def step (E : Env) (nk : Key) (o : Oper) (i : Nat) (m : Mem) (rd : List Key) (tr : List TrE) (k : Mem → List TrE → Res) : Res :=
  (opRM E nk o.op).run m rd fun v ws rd => match o.dst with
    | some t => bif !Nat.blt t E.nt then none else k (upd (upds m ws) t (.av v)) (⟨i, rd, t :: ws.map (·.1)⟩ :: tr)
    | none => k (upds m ws) (⟨i, rd, ws.map (·.1)⟩ :: tr)
def skipOp (E : Env) (o : Oper) (g : Key) (i : Nat) (m : Mem) (tr : List TrE) (k : Mem → List TrE → Res) : Res :=
  match o.dst with
  | some t => bif !Nat.blt t E.nt then none else k (upd m t (.av (.one .uv))) (⟨i, [g], [t]⟩ :: tr)
  | none => k m (⟨i, [g], []⟩ :: tr)

def opsR (E : Env) (ops : Array Oper) (nx : Key) : List Oper → Nat → Mem → List TrE → (Mem → List TrE → Res) → Res
  | [], _, m, tr, k => k m tr
  | o :: os, i, m, tr, k =>
    match o.guard with
    | none => step E (nx + 32 * i) o i m [] tr fun m tr => opsR E ops nx os (i + 1) m tr k
    | some (j, want) => match (ops[j]?).bind (·.dst) with
      | none => none
      | some g => match m g with
        | .av (.one (.d (.b v))) => cond v
            (match want with
              | true => step E (nx + 32 * i) o i (upd m g (lit true)) [g] tr fun m tr => opsR E ops nx os (i + 1) m tr k
              | false => skipOp E o g i (upd m g (lit true)) tr fun m tr => opsR E ops nx os (i + 1) m tr k)
            (match want with
              | true => skipOp E o g i (upd m g (lit false)) tr fun m tr => opsR E ops nx os (i + 1) m tr k
              | false => step E (nx + 32 * i) o i (upd m g (lit false)) [g] tr fun m tr => opsR E ops nx os (i + 1) m tr k)
        | .av (.one .uv) => skipOp E o g i m tr fun m tr => opsR E ops nx os (i + 1) m tr k
        | _ => none

/- Two operations that no edge orders do not meet: none writes what the other reads or writes. -/
def meets (a b : List Key) : Bool := a.any fun x => b.any fun y => Nat.beq x y
def clash (x y : TrE) : Bool := meets x.wr y.rd || meets x.wr y.wr || meets x.rd y.wr
def indepB (bf : Array Nat) : List TrE → Bool
  | [] => true
  | y :: r => (r.all fun x => !clash x y || ((bf.getD y.i 0).testBit x.i)) && indepB bf r

def backB : List Oper → Nat → Bool
  | [], _ => true
  | o :: os, i => (o.after.toList.all fun e => !Region.binds .any e || Nat.blt e.on i) && backB os (i + 1)

structure St where
  m : Mem
  nx : Key
inductive Ex where
  | exit (id : Nat)
  | ret

def regionR (E : Env) (ops : Array Oper) (draw : Bool) (s : St) (k : St → Res) : Res :=
  opsR E ops s.nx ops.toList 0 s.m [] fun m tr => bif (!draw || (backB ops.toList 0 && indepB (Region.before ops) tr)) then k ⟨m, s.nx + 32 * ops.size⟩ else none

def loopN : Nat → ((St → Res) → St → Res) → St → Res
  | 0, _, _ => none
  | n + 1, G, s => G (loopN n G) s

def pureA : A0 → Bool
  | .d _ | .nil | .uv | .und | .fp _ => true
  | _ => false
def pureV : AV → Bool
  | .one a => pureA a
  | .agg cs => cs.all pureA
  | .tup vs => vs.all fun v => v.2.all pureA
  | .clo _ cs => cs.all pureA

/- One cell that is kept: its new form, the objects laid at new keys, the old keys moved. -/
inductive From where
  | of (x : Key)
  | mt (τ : STy)
def From.old : From → List Key
  | .of x => [x]
  | .mt _ => []
structure Kept where
  ws : List (Key × C)
  mv : List (Key × From)
def keepCell (m : Mem) (a : A0) (k : Option (STy × Key)) (f : A0 → Kept → Res) : Res := match k with
  | none => bif pureA a then f a ⟨[], []⟩ else none
  | some (τ, nk) => match a with
    | .nil => f (.ls nk 0 none) ⟨[(nk, .arr τ true [])], [(nk, .mt τ)]⟩
    | .ls x off len => match m x with
      | .arr σ o xs => f (.ls nk off len) ⟨[(nk, .arr σ o xs)], [(nk, .of x)]⟩
      | .fz σ xs => f (.ls nk off len) ⟨[(nk, .fz σ xs)], [(nk, .of x)]⟩
      | _ => none
    | _ => none
def keepCells (m : Mem) : List A0 → List (Option (STy × Key)) → (List A0 → Kept → Res) → Res
  | [], [], f => f [] ⟨[], []⟩
  | a :: r, k :: ks, f => keepCell m a k fun a' q => keepCells m r ks fun r' q' => f (a' :: r') ⟨q.ws ++ q'.ws, q.mv ++ q'.mv⟩
  | _, _, _ => none
def keepSlot (m : Mem) (t : Nat) (k : SK) (f : Kept → Res) : Res := match k with
  | .p => match m t with
    | .av v => bif pureV v then f ⟨[(t, .av v)], []⟩ else none
    | _ => none
  | .a τ nk => match m t with
    | .av (.one a) => keepCell m a (some (τ, nk)) fun a' q => f ⟨(t, .av (.one a')) :: q.ws, q.mv⟩
    | _ => none
  | .bx nk ks => match m t with
    | .av (.one (.bp x 0)) => match m x with
      | .box cs => keepCells m cs ks fun cs' q => f ⟨(t, .av (.one (.bp nk 0))) :: (nk, .box cs') :: q.ws, (nk, .of x) :: q.mv⟩
      | _ => none
    | _ => none
def keepAll (m : Mem) : List (Nat × SK) → (Kept → Res) → Res
  | [], f => f ⟨[], []⟩
  | (t, k) :: r, f => keepSlot m t k fun q => keepAll m r fun q' => f ⟨q.ws ++ q'.ws, q.mv ++ q'.mv⟩
abbrev Ann := List (Nat × SK) × Key
def wsB (nt : Nat) (e : Key × C) : Bool := match e.2 with
  | .av _ => Nat.blt e.1 nt
  | _ => Nat.ble nt e.1
def keptB (nt : Nat) (nx : Key) (q : Kept) : Bool :=
  nodupB (q.mv.flatMap fun e => e.2.old) && (nodupB (q.ws.map (·.1)) && (nodupB (q.mv.map (·.1)) && (Nat.blt 0 nt && (Nat.ble nt nx && (q.mv.all (fun e => Nat.ble nt e.1 && Nat.blt e.1 nx) && q.ws.all (wsB nt))))))
def pinB (nt pin : Nat) (nx : Key) (mv : List (Key × From)) : Bool :=
  Nat.ble (nt + pin) nx && mv.all fun e => Nat.ble (nt + pin) e.1 || (match e.2 with | .of x => Nat.beq x e.1 | .mt _ => false)
def canon (E : Env) (a : Ann) (s : St) (k : St → Res) : Res :=
  keepAll s.m a.1 fun q => bif keptB E.nt a.2 q && pinB E.nt E.pin a.2 q.mv then k ⟨upds (fun _ => cU) q.ws, a.2⟩ else none
def canonAt (E : Env) (id : Nat) (s : St) (k : St → Res) : Res := match lk id E.ann with
  | some a => canon E a s k
  | none => k s

def opdA (m : Mem) (x : Operand) : AV := match x with
  | .tmp t => match m t with | .av v => v | _ => .one .und
  | .const v => constAV v
  | _ => .one .und

def exec (E : Env) : Code → (St → Res) → (Ex → St → Res) → St → Res
  | .skip, k, _, s => k s
  | .seq a b, k, x, s => exec E a (exec E b k x) x s
  | .cond c a b, k, x, s => match opdA s.m c with
    | .one (.d (.b v)) => cond v (exec E a k x s) (exec E b k x s)
    | _ => none
  | .region _ ops draw, k, _, s => regionR E ops draw s k
  | .block id (.loop body), k, x, s =>
      canonAt E (2 * id) s (loopN E.fuel fun again s => exec E body (fun s => canonAt E (2 * id) s again)
        (fun e s => match e with | .exit j => bif Nat.beq j id then canonAt E (2 * id + 1) s k else x e s | .ret => x e s) s)
  | .block id body, k, x, s => exec E body (fun s => canonAt E (2 * id + 1) s k)
        (fun e s => match e with | .exit j => bif Nat.beq j id then canonAt E (2 * id + 1) s k else x e s | .ret => x e s) s
  | .exit id, _, x, s => x (.exit id) s
  | .ret, _, x, s => x .ret s
  | _, _, _, _ => none

/- One round of the loop at a place of the code; 'ag': what the rounds of the loops around it go on with, outermost first. -/
def roundAt (E : Env) : List Nat → List (St → Res) → Code → (St → Res) → (Ex → St → Res) → (St → Res) → St → Res
  | [], _, .block id (.loop body), k, x => fun again s => exec E body (fun s => canonAt E (2 * id) s again)
        (fun e s => match e with | .exit j => bif Nat.beq j id then canonAt E (2 * id + 1) s k else x e s | .ret => x e s) s
  | 0 :: p, ag, .seq a b, k, x => roundAt E p ag a (exec E b k x) x
  | 1 :: p, ag, .seq _ b, k, x => roundAt E p ag b k x
  | 0 :: p, ag, .cond _ a _, k, x => roundAt E p ag a k x
  | 1 :: p, ag, .cond _ _ b, k, x => roundAt E p ag b k x
  | 0 :: p, again :: ag, .block id (.loop body), k, x => roundAt E p ag body (fun s => canonAt E (2 * id) s again)
        (fun e s => match e with | .exit j => bif Nat.beq j id then canonAt E (2 * id + 1) s k else x e s | .ret => x e s)
  | 0 :: p, ag, .block id body, k, x => roundAt E p ag body (fun s => canonAt E (2 * id + 1) s k)
        (fun e s => match e with | .exit j => bif Nat.beq j id then canonAt E (2 * id + 1) s k else x e s | .ret => x e s)
  | _, _, _, _, _ => fun _ _ => none
/- 9. A call: parameters in, results out. -/
def expCells (m : Mem) : List A0 → List CT → List Key → (List (Bool × DV) → List Key → Res) → Res
  | [], _, used, f => f [] used
  | .d (.sl _ _) :: _, _, _, _ => none
  | .d v :: r, ct, used, f => expCells m r ct.tail used fun ds u => f ((true, v) :: ds) u
  | .nil :: r, ct, used, f => match ct with
    | .sl τ :: cr => expCells m r cr used fun ds u => f ((true, .sl τ []) :: ds) u
    | _ => none
  | .ls x off len :: r, ct, used, f => match m x with
    | .arr τ own xs => expCells m r ct.tail (x :: used) fun ds u => f ((own, .sl τ (sub xs off len)) :: ds) u
    | _ => none
  | _ :: _, _, _, _ => none
def resCells (E : Env) (m : Mem) (r : ResultVar) (t : TypeId) (f : List A0 → List CT → Res) : Res :=
  match lk t E.tys with
  | none => none
  | some i => match r with
    | .tmp u => match m u with
      | .av (.agg cs) => bif i.agg && Nat.beq cs.length i.cts.length then f cs i.cts else none
      | .av (.one a) => bif !i.agg && Nat.beq 1 i.cts.length then f [a] i.cts else none
      | _ => none
    | .cell u t' => bif !Nat.beq t t' then none else match m u with
      | .av (.one (.bp x off)) => match m x with
        | .box cs => bif Nat.beq (cutAt cs off i.cts.length).length i.cts.length && (i.agg || Nat.beq i.cts.length 1) then f (cutAt cs off i.cts.length) i.cts else none
        | _ => none
      | _ => none
def resAll (E : Env) (m : Mem) : List ResultVar → List TypeId → List Key → (List (Bool × DV) → List Key → Res) → Res
  | [], [], used, f => f [] used
  | r :: rs, t :: ts, used, f => resCells E m r t fun cs ct => expCells m cs ct used fun ds u => resAll E m rs ts u fun ds' u' => f (ds ++ ds') u'
  | _, _, _, _ => none
def finish (E : Env) (fn : Func) (s : St) : Res :=
  resAll E s.m fn.results.toList fn.resultTypes.toList [] fun ds used => bif nodupB used then some ds else none

/- Parameters: the deep cells of all, shared out by their types. -/
def params (E : Env) : List TypeId → Nat → List DV → Mem → (Mem → Res) → Res
  | [], _, [], m, f => f m
  | t :: ts, j, ds, m, f => match lk t E.tys with
    | some i => bif i.agg then params E ts (j + 1) (ds.drop i.cts.length) (upd m j (.av (.agg ((ds.take i.cts.length).map .d)))) f
      else match ds with
        | d :: r => params E ts (j + 1) r (upd m j (.av (.one (.d d)))) f
        | [] => none
    | none => none
  | _, _, _, _, _ => none
/- A loop of a function, from a state at its head on. -/
def loopF (E : Env) (fn : Func) (p : List Nat) (ag : List (St → Res)) (n : Nat) (s : St) : Res :=
  loopN n (roundAt E p ag (fn.body.getD .skip) (finish E fn) (fun e s => match e with | .ret => finish E fn s | _ => none)) s
def runF (E : Env) (fn : Func) (ds : List DV) : Res := match fn.body with
  | none => none
  | some c => params E fn.params.toList 0 ds (fun k => bif Nat.blt k E.nt then .av (.one .uv) else cU) fun m => exec E c (finish E fn) (fun e s => match e with | .ret => finish E fn s | _ => none) ⟨m, E.nt⟩

/- 10. A function as a law over deep values: what it takes, what it yields, when, and what. -/
structure Fn where
  ars : List (Bool × List CT)
  res : List (Bool × Nat)
  st : Bool               -- a result may share memory with what it was given: so only what nobody writes may be given
  dom : List DV → Bool
  run : List DV → Option (List (Bool × DV))
def deepCells (st : Bool) : List A0 → List CT → (List DV → RM) → RM
  | [], _, f => f []
  | .d v :: r, ct, f => deepCells st r ct.tail fun ds => f (v :: ds)
  | .nil :: r, ct, f => match ct with
    | .sl τ :: cr => deepCells st r cr fun ds => f (.sl τ [] :: ds)
    | _ => .fail
  | .ls x off len :: r, ct, f => .get x fun c => match c with
    | .arr τ _ xs => bif st then .fail else deepCells st r ct.tail fun ds => f (.sl τ (sub xs off len) :: ds)
    | .fz τ xs => deepCells st r ct.tail fun ds => f (.sl τ (sub xs off len) :: ds)
    | _ => .fail
  | _ :: _, _, _ => .fail
def deepArgs (st : Bool) : List AV → List (Bool × List CT) → (List DV → RM) → RM
  | [], [], f => f []
  | .agg cs :: vs, (true, ct) :: r, f => bif !Nat.beq cs.length ct.length then .fail else deepCells st cs ct fun ds => deepArgs st vs r fun es => f (ds ++ es)
  | .one a :: vs, (false, [ct]) :: r, f => deepCells st [a] [ct] fun ds => deepArgs st vs r fun es => f (ds ++ es)
  | _, _, _ => .fail
def resWs (nk : Key) : Nat → List (Bool × DV) → List (Key × C)
  | _, [] => []
  | j, (o, .sl τ xs) :: r => (nk + j, .arr τ o xs) :: resWs nk (j + 1) r
  | j, _ :: r => resWs nk (j + 1) r
def resAs (nk : Key) : Nat → List (Bool × DV) → List A0
  | _, [] => []
  | j, (_, .sl _ _) :: r => .ls (nk + j) 0 none :: resAs nk (j + 1) r
  | j, (_, d) :: r => .d d :: resAs nk (j + 1) r
def resSplit : List (Bool × Nat) → List A0 → List (Bool × List A0)
  | [], _ => []
  | (a, n) :: r, cs => (a, cs.take n) :: resSplit r (cs.drop n)
def avOf : List (Bool × List A0) → AV
  | [(true, x)] => .agg x
  | [(false, [a])] => .one a
  | [(false, _)] => .one .und
  | l => .tup l
def resAV (res : List (Bool × Nat)) (cs : List A0) : AV := avOf (resSplit res cs)
def callFn (F : Fn) (nk : Key) (args : List AV) : RM := deepArgs F.st args F.ars fun ds => .grd (F.dom ds) (match F.run ds with
  | some out => bif Nat.ble out.length 32 && (F.st || out.all (·.1)) then .ret (resAV F.res (resAs nk 0 out)) (resWs nk 0 out) else .fail
  | none => .fail)
def arsOf (tys : List (Nat × TI)) : List TypeId → Option (List (Bool × List CT))
  | [] => some []
  | t :: ts => match lk t tys, arsOf tys ts with
    | some i, some r => some ((i.agg, i.cts) :: r)
    | _, _ => none
def resOf (tys : List (Nat × TI)) : List TypeId → Option (List (Bool × Nat))
  | [] => some []
  | t :: ts => match lk t tys, resOf tys ts with
    | some i, some r => some ((i.agg, i.cts.length) :: r)
    | _, _ => none

end Ai
end Go.Proofs.Ytfjdfbdiichhdaa
