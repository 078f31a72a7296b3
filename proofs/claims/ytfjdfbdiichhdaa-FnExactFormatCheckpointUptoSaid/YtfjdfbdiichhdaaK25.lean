/-
  The abstract interpreter, twenty-fifth part: functions that are lent objects: definitions. Conditions: none.
-/
import Derived.Test.YtfjdfbdiichhdaaK24
namespace Go.Proofs.Ytfjdfbdiichhdaa
open Go
namespace Ai

/- 1. What is lent: a slice that is written in place, a slice that is given away, a box. Each takes keys behind the callee's slots, in order. -/
inductive Ent where
  | sl (τ : STy)
  | mv (τ : STy)
  | bx (ks : List (Option STy))
def Ent.w : Ent → Nat
  | .bx ks => ks.length + 1
  | _ => 1
def Ent.val (k : Key) : Ent → A0
  | .bx _ => .bp k 0
  | _ => .ls k 0 none
def valsOf : Key → List Ent → List A0
  | _, [] => []
  | k, e :: r => e.val k :: valsOf (k + e.w) r
def widthOf : List Ent → Nat
  | [] => 0
  | e :: r => e.w + widthOf r
inductive PS where
  | dp (agg : Bool) (ct : List CT)
  | en (e : Ent)
  | cl (g : Nat) (es : List (List (Option STy)))
def entsOf : List PS → List Ent
  | [] => []
  | .dp _ _ :: r => entsOf r
  | .en e :: r => e :: entsOf r
  | .cl _ es :: r => es.map .bx ++ entsOf r
def deepN : List PS → Nat
  | [] => 0
  | .dp _ ct :: r => ct.length + deepN r
  | _ :: r => deepN r
structure FnL where
  ps : List PS
  res : List (Bool × Nat)
  st : Bool
  dom : List DV → Bool
  run : List DV → Option (List (Bool × DV))

/- 2. The callee's side. -/
def avs : List PS → Key → List DV → List AV
  | [], _, _ => []
  | .dp true ct :: ps, k, ds => .agg ((ds.take ct.length).map .d) :: avs ps k (ds.drop ct.length)
  | .dp false _ :: ps, k, ds => .one (match ds with | d :: _ => .d d | [] => .und) :: avs ps k (ds.drop 1)
  | .en e :: ps, k, ds => .one (e.val k) :: avs ps (k + e.w) ds
  | .cl g es :: ps, k, ds => .clo g (valsOf k (es.map .bx)) :: avs ps (k + widthOf (es.map .bx)) ds
def setP : List AV → Nat → Mem → Mem
  | [], _, m => m
  | v :: vs, j, m => setP vs (j + 1) (upd m j (.av v))
def bcells : Key → List (Option STy) → List DV → List A0
  | k, none :: ks, d :: ds => .d d :: bcells (k + 1) ks ds
  | k, some _ :: ks, _ :: ds => .ls k 0 none :: bcells (k + 1) ks ds
  | _, _, _ => []
def bobjs : Key → List (Option STy) → List DV → List (Key × C)
  | k, none :: ks, _ :: ds => bobjs (k + 1) ks ds
  | k, some _ :: ks, .sl σ xs :: ds => (k, .arr σ true xs) :: bobjs (k + 1) ks ds
  | _, _, _ => []
def objs : Key → List Ent → List DV → List (Key × C)
  | k, .bx ks :: r, ds => (k, .box (bcells (k + 1) ks ds)) :: (bobjs (k + 1) ks ds ++ objs (k + (ks.length + 1)) r (ds.drop ks.length))
  | k, .sl _ :: r, .sl σ xs :: ds => (k, .arr σ true xs) :: objs (k + 1) r ds
  | k, .mv _ :: r, .sl σ xs :: ds => (k, .arr σ true xs) :: objs (k + 1) r ds
  | _, _, _ => []
def styB : STy → STy → Bool
  | .row, .row | .run, .run | .int, .int | .bool, .bool | .byte, .byte | .str, .str | .cli, .cli | .clis, .clis | .pair, .pair | .grp, .grp | .tsk, .tsk | .gtk, .gtk | .slt, .slt => true
  | _, _ => false
theorem styB_eq {σ τ : STy} (h : styB σ τ = true) : σ = τ := by cases σ <;> cases τ <;> first | rfl | cases h
def expL (st : Bool) (m : Mem) : List A0 → List (Option STy) → List Key → (List (Bool × DV) → List Key → Res) → Res
  | [], [], used, f => f [] used
  | .d v :: r, none :: ks, used, f => bif st || scalar v then expL st m r ks used fun ds u => f ((true, v) :: ds) u else none
  | .nil :: r, some τ :: ks, used, f => expL st m r ks used fun ds u => f ((true, .sl τ []) :: ds) u
  | .ls z off len :: r, some τ :: ks, used, f => match m z with
    | .arr σ true zs => bif styB σ τ then expL st m r ks (z :: used) fun ds u => f ((true, .sl σ (sub zs off len)) :: ds) u else none
    | _ => none
  | _, _, _, _ => none
def lentFin (st : Bool) (m : Mem) : Key → List Ent → List Key → (List (Bool × DV) → List Key → Res) → Res
  | _, [], used, f => f [] used
  | k, .sl τ :: r, used, f => match m k with
    | .arr σ true ys => bif styB σ τ then lentFin st m (k + 1) r (k :: used) fun ds u => f ((true, .sl σ ys) :: ds) u else none
    | _ => none
  | k, .mv _ :: r, used, f => lentFin st m (k + 1) r used f
  | k, .bx ks :: r, used, f => match m k with
    | .box cs => expL st m cs ks (k :: used) fun ds u => lentFin st m (k + (ks.length + 1)) r u fun ds' u' => f (ds ++ ds') u'
    | _ => none
def nres (res : List (Bool × Nat)) : Nat := (res.map (·.2)).sum
def finishL (E : Env) (fn : Func) (F : FnL) (s : St) : Res :=
  resAll E s.m fn.results.toList fn.resultTypes.toList [] fun ds used => lentFin F.st s.m E.nt (entsOf F.ps) used fun ds' used' => bif nodupB used' && ds.all (·.1) && Nat.beq ds.length (nres F.res) then some (ds ++ ds') else none
def memL (E : Env) (F : FnL) (ds : List DV) : Mem :=
  upds (setP (avs F.ps E.nt ds) 0 fun k => bif Nat.blt k E.nt then .av (.one .uv) else cU) (objs E.nt (entsOf F.ps) (ds.drop (deepN F.ps)))
def runL (E : Env) (fn : Func) (F : FnL) (ds : List DV) : Res := match fn.body with
  | none => none
  | some c => exec E c (finishL E fn F) (fun e s => match e with | .ret => finishL E fn F s | _ => none) ⟨memL E F ds, E.nt + E.pin⟩
def loopL (E : Env) (fn : Func) (F : FnL) (p : List Nat) (ag : List (St → Res)) (n : Nat) (s : St) : Res :=
  loopN n (roundAt E p ag (fn.body.getD .skip) (finishL E fn F) (fun e s => match e with | .ret => finishL E fn F s | _ => none)) s

/- 3. The caller's side. -/
inductive LE where
  | sl (y : Key) (τ : STy) (xs : List (El τ))
  | mv (y off : Nat) (len : Option Nat) (τ : STy) (xs : List (El τ))
  | bx (x : Key) (cs : List A0) (ks : List (Option STy))
def LE.can : LE → List A0
  | .sl y _ _ => [.ls y 0 none]
  | .mv y off len _ _ => [.ls y off len]
  | .bx x cs _ => .bp x 0 :: cs
def splitA : List AV → List PS → Option (List AV × List (Bool × List CT) × List (A0 × Ent))
  | [], [] => some ([], [], [])
  | v :: vs, .dp a ct :: ps => match splitA vs ps with
    | some (A, S, L) => some (v :: A, (a, ct) :: S, L)
    | none => none
  | .one a :: vs, .en e :: ps => match splitA vs ps with
    | some (A, S, L) => some (A, S, (a, e) :: L)
    | none => none
  | .clo g caps :: vs, .cl g' es :: ps => bif Nat.beq g g' && Nat.beq caps.length es.length then (match splitA vs ps with
    | some (A, S, L) => some (A, S, caps.zip (es.map .bx) ++ L)
    | none => none) else none
  | _, _ => none
def lendCells : List A0 → List (Option STy) → (List DV → RM) → RM
  | [], [], f => f []
  | .d v :: r, none :: ks, f => lendCells r ks fun ds => f (v :: ds)
  | .ls y off len :: r, some τ :: ks, f => .get y fun c => match c with
    | .arr σ true xs => bif styB σ τ then lendCells r ks fun ds => f (.sl σ (sub xs off len) :: ds) else .fail
    | _ => .fail
  | _, _, _ => .fail
def lendEnts : List (A0 × Ent) → (List DV → List LE → RM) → RM
  | [], f => f [] []
  | (.ls y off len, .sl τ) :: r, f => bif Nat.beq off 0 && len.isNone then .get y fun c => match c with
      | .arr σ true xs => bif styB σ τ then lendEnts r fun ds les => f (.sl σ xs :: ds) (.sl y σ xs :: les) else .fail
      | _ => .fail
    else .fail
  | (.ls y off len, .mv τ) :: r, f => .get y fun c => match c with
    | .arr σ true xs => bif styB σ τ then lendEnts r fun ds les => f (.sl σ (sub xs off len) :: ds) (.mv y off len σ xs :: les) else .fail
    | _ => .fail
  | (.bp x 0, .bx ks) :: r, f => .get x fun c => match c with
    | .box cs => lendCells cs ks fun ds => lendEnts r fun ds' les => f (ds ++ ds') (.bx x cs ks :: les)
    | _ => .fail
  | _, _ => .fail
def lkeys : List A0 → List Key
  | [] => []
  | .ls y _ _ :: r => y :: lkeys r
  | .bp x _ :: r => x :: lkeys r
  | _ :: r => lkeys r
def notIn (ks : List Key) : A0 → Bool
  | .ls z _ _ => ks.all fun k => !Nat.beq k z
  | _ => true
def boxC (nk : Key) : Nat → List (Option STy) → List (Bool × DV) → List A0
  | i, none :: ks, (_, d) :: out => .d d :: boxC nk (i + 1) ks out
  | i, some _ :: ks, _ :: out => .ls (nk + i) 0 none :: boxC nk (i + 1) ks out
  | _, _, _ => []
def boxW (nk : Key) : Nat → List (Option STy) → List (Bool × DV) → List (Key × C)
  | i, none :: ks, _ :: out => boxW nk (i + 1) ks out
  | i, some _ :: ks, (_, .sl σ ys) :: out => (nk + i, .arr σ true ys) :: boxW nk (i + 1) ks out
  | _, _, _ => []
def lentWs (nk : Key) : List LE → Nat → List (Bool × DV) → List (Key × C)
  | .sl y _ _ :: r, i, (_, .sl σ ys) :: out => (y, .arr σ true ys) :: lentWs nk r (i + 1) out
  | .mv y _ _ _ _ :: r, i, out => (y, cU) :: lentWs nk r i out
  | .bx x cs ks :: r, i, out => (x, .box (boxC nk i ks out)) :: (boxW nk i ks out ++ ((lsKeys cs).map fun y => (y, cU)) ++ lentWs nk r (i + ks.length) (out.drop ks.length))
  | _, _, _ => []
def callL (F : FnL) (nk : Key) (args : List AV) : RM := match splitA args F.ps with
  | none => .fail
  | some (A, S, L) => lendEnts L fun es les =>
      bif !(nodupB (lkeys (les.flatMap LE.can)) && A.all fun v => v.top.all (notIn (lkeys (les.flatMap LE.can)))) then .fail else
      deepArgs F.st A S fun ds => .grd (F.dom (ds ++ es)) (match F.run (ds ++ es) with
        | some out => bif Nat.ble out.length 32 then
            .ret (resAV F.res (resAs nk 0 (out.take (nres F.res)))) (resWs nk 0 (out.take (nres F.res)) ++ lentWs nk les (nres F.res) (out.drop (nres F.res))) else .fail
        | none => .fail)

end Ai
end Go.Proofs.Ytfjdfbdiichhdaa
