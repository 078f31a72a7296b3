/-
  The library's sorting in place: two sorted neighbouring ranges merged. Conditions: none.
-/
import Derived.Test.YtfjdfbdiichhdaaA6
namespace Go.Proofs.Ytfjdfbdiichhdaa
open Go Ai
set_option maxRecDepth 100000
def sortedB : List Row → Bool
  | [] => true
  | x :: r => r.all (fun y => decide (leR x y)) && sortedB r
def mergeDom (l : List Row) (a m b : Int) : Bool := decide (0 ≤ a) && decide (a < m) && decide (m < b) && decide (b ≤ l.length) && small l.length && sortedB ((l.drop a.toNat).take (m.toNat - a.toNat)) && sortedB ((l.drop m.toNat).take (b.toNat - m.toNat))
def S_z_symMergeCmpFunc_Row : FnL := ⟨[.en (.sl .row), .dp false [.sc], .dp false [.sc], .dp false [.sc], .cl 85 []], [], false, fun _ => false, fun _ => none⟩
def FR_z_symMergeCmpFunc_Row (rb : Nat) : FnL := { S_z_symMergeCmpFunc_Row with dom := fun ds => match ds with | [.i .i64 p1, .i .i64 p2, .i .i64 p3, .sl .row p0] => (mergeDom p0 p1 p2 p3) && decide ((p3 - p1).toNat < rb) | _ => false, run := fun ds => match ds with | [.i .i64 p1, .i .i64 p2, .i .i64 p3, .sl .row p0] => some [(true, .sl .row (sortOut p0 p1.toNat p3.toNat))] | _ => none }
def E_z_symMergeCmpFunc_Row (fuel : Nat) (rb : Nat) : Env := ⟨tys, [(85, callFn F_i_CompareRows), (136, callL (FR_z_symMergeCmpFunc_Row rb)), (141, callL F_z_rotateCmpFunc_Row)], [(0, ([(0, .a .row 220), (1, .p), (4, .p), (10, .p), (11, .p)], 221)), (8, ([(0, .a .row 220), (2, .p), (4, .p), (14, .p), (15, .p)], 221)), (16, ([(0, .a .row 220), (1, .p), (2, .p), (3, .p), (4, .p), (18, .p), (19, .p), (20, .p), (21, .p), (22, .p)], 221)), (4, ([(0, .a .row 220), (4, .p), (10, .p), (13, .p)], 221)), (12, ([(0, .a .row 220), (4, .p), (14, .p), (17, .p)], 221))], fuel, 220, 1⟩
noncomputable def X_z_symMergeCmpFunc_Row_0 (fuel : Nat) (rb : Nat) (n : Nat)  (v0 : List Row) (v1 : Int) (v10 : Int) (v11 : Int) : Res := loopL (E_z_symMergeCmpFunc_Row fuel rb) Try.f136 S_z_symMergeCmpFunc_Row [0, 1, 0, 1, 1, 0] [] n ⟨upds (fun _ => cU) [(0, .av (.one (.ls 220 0 none))), (220, .arr .row true v0), (1, .av (.one (.d (.i .i64 v1)))), (4, .av (.clo 85 [])), (10, .av (.one (.d (.i .i64 v10)))), (11, .av (.one (.d (.i .i64 v11))))], 221⟩
noncomputable def X_z_symMergeCmpFunc_Row_4 (fuel : Nat) (rb : Nat) (n : Nat)  (v0 : List Row) (v2 : Int) (v14 : Int) (v15 : Int) : Res := loopL (E_z_symMergeCmpFunc_Row fuel rb) Try.f136 S_z_symMergeCmpFunc_Row [1, 0, 1, 0, 1, 1, 0] [] n ⟨upds (fun _ => cU) [(0, .av (.one (.ls 220 0 none))), (220, .arr .row true v0), (2, .av (.one (.d (.i .i64 v2)))), (4, .av (.clo 85 [])), (14, .av (.one (.d (.i .i64 v14)))), (15, .av (.one (.d (.i .i64 v15))))], 221⟩
noncomputable def X_z_symMergeCmpFunc_Row_8 (fuel : Nat) (rb : Nat) (n : Nat)  (v0 : List Row) (v1 : Int) (v2 : Int) (v3 : Int) (v18 : Int) (v19 : Int) (v20 : Int) (v21 : Int) (v22 : Int) : Res := loopL (E_z_symMergeCmpFunc_Row fuel rb) Try.f136 S_z_symMergeCmpFunc_Row [1, 1, 1, 1, 1, 1, 1, 0] [] n ⟨upds (fun _ => cU) [(0, .av (.one (.ls 220 0 none))), (220, .arr .row true v0), (1, .av (.one (.d (.i .i64 v1)))), (2, .av (.one (.d (.i .i64 v2)))), (3, .av (.one (.d (.i .i64 v3)))), (4, .av (.clo 85 [])), (18, .av (.one (.d (.i .i64 v18)))), (19, .av (.one (.d (.i .i64 v19)))), (20, .av (.one (.d (.i .i64 v20)))), (21, .av (.one (.d (.i .i64 v21)))), (22, .av (.one (.d (.i .i64 v22))))], 221⟩
noncomputable def X_z_symMergeCmpFunc_Row_2 (fuel : Nat) (rb : Nat) (n : Nat)  (v0 : List Row) (v10 : Int) (v13 : Int) : Res := loopL (E_z_symMergeCmpFunc_Row fuel rb) Try.f136 S_z_symMergeCmpFunc_Row [0, 1, 0, 1, 1, 1, 0, 1] [] n ⟨upds (fun _ => cU) [(0, .av (.one (.ls 220 0 none))), (220, .arr .row true v0), (4, .av (.clo 85 [])), (10, .av (.one (.d (.i .i64 v10)))), (13, .av (.one (.d (.i .i64 v13))))], 221⟩
noncomputable def X_z_symMergeCmpFunc_Row_6 (fuel : Nat) (rb : Nat) (n : Nat)  (v0 : List Row) (v14 : Int) (v17 : Int) : Res := loopL (E_z_symMergeCmpFunc_Row fuel rb) Try.f136 S_z_symMergeCmpFunc_Row [1, 0, 1, 0, 1, 1, 1, 0, 1] [] n ⟨upds (fun _ => cU) [(0, .av (.one (.ls 220 0 none))), (220, .arr .row true v0), (4, .av (.clo 85 [])), (14, .av (.one (.d (.i .i64 v14)))), (17, .av (.one (.d (.i .i64 v17))))], 221⟩
theorem top_z_symMergeCmpFunc_Row (fuel : Nat) (rb : Nat) (p1 : Int) (p2 : Int) (p3 : Int) (p0 : List Row) : runL (E_z_symMergeCmpFunc_Row fuel rb) Try.f136 S_z_symMergeCmpFunc_Row [.i .i64 p1, .i .i64 p2, .i .i64 p3, .sl .row p0] =
 cond (decide ((IntKind.i64.wrap (p2 - p1)) = 1))
 (X_z_symMergeCmpFunc_Row_0 fuel rb fuel p0 p1 p2 p3)
 (cond (decide ((IntKind.i64.wrap (p3 - p2)) = 1))
 (X_z_symMergeCmpFunc_Row_4 fuel rb fuel p0 p2 p1 p2)
 (cond (decide (p2 > (IntKind.i64.wrap (shrI .u64 (IntKind.u64.wrap (IntKind.i64.wrap (p1 + p3))) 1))))
 (X_z_symMergeCmpFunc_Row_8 fuel rb fuel p0 p1 p2 p3 (IntKind.i64.wrap (shrI .u64 (IntKind.u64.wrap (IntKind.i64.wrap (p1 + p3))) 1)) (IntKind.i64.wrap ((IntKind.i64.wrap (shrI .u64 (IntKind.u64.wrap (IntKind.i64.wrap (p1 + p3))) 1)) + p2)) (IntKind.i64.wrap ((IntKind.i64.wrap ((IntKind.i64.wrap (shrI .u64 (IntKind.u64.wrap (IntKind.i64.wrap (p1 + p3))) 1)) + p2)) - p3)) (IntKind.i64.wrap (shrI .u64 (IntKind.u64.wrap (IntKind.i64.wrap (p1 + p3))) 1)) (IntKind.i64.wrap ((IntKind.i64.wrap ((IntKind.i64.wrap (shrI .u64 (IntKind.u64.wrap (IntKind.i64.wrap (p1 + p3))) 1)) + p2)) - 1)))
 (X_z_symMergeCmpFunc_Row_8 fuel rb fuel p0 p1 p2 p3 (IntKind.i64.wrap (shrI .u64 (IntKind.u64.wrap (IntKind.i64.wrap (p1 + p3))) 1)) (IntKind.i64.wrap ((IntKind.i64.wrap (shrI .u64 (IntKind.u64.wrap (IntKind.i64.wrap (p1 + p3))) 1)) + p2)) p1 p2 (IntKind.i64.wrap ((IntKind.i64.wrap ((IntKind.i64.wrap (shrI .u64 (IntKind.u64.wrap (IntKind.i64.wrap (p1 + p3))) 1)) + p2)) - 1))))) := by kernel_rfl
theorem st_z_symMergeCmpFunc_Row_0 (fuel : Nat) (rb : Nat) (n : Nat)  (v0 : List Row) (v1 : Int) (v10 : Int) (v11 : Int) : X_z_symMergeCmpFunc_Row_0 fuel rb (n + 1) v0 v1 v10 v11 =
 cond (decide (v10 < v11))
 (cond (decide (0 ≤ (IntKind.i64.wrap (shrI .u64 (IntKind.u64.wrap (IntKind.i64.wrap (v10 + v11))) 1))) && decide (((IntKind.i64.wrap (shrI .u64 (IntKind.u64.wrap (IntKind.i64.wrap (v10 + v11))) 1)).toNat) < v0.length)) (Option.bind (v0[0 + ((IntKind.i64.wrap (shrI .u64 (IntKind.u64.wrap (IntKind.i64.wrap (v10 + v11))) 1)).toNat)]?) fun e1 => cond (decide (0 ≤ v1) && decide (v1.toNat < v0.length)) (Option.bind (v0[0 + v1.toNat]?) fun e2 => cond (decide ((r_i_CompareRows_0 e1.k e1.v e1.w e2.k e2.v e2.w) < 0))
 (X_z_symMergeCmpFunc_Row_0 fuel rb n v0 v1 (IntKind.i64.wrap ((IntKind.i64.wrap (shrI .u64 (IntKind.u64.wrap (IntKind.i64.wrap (v10 + v11))) 1)) + 1)) v11)
 (X_z_symMergeCmpFunc_Row_0 fuel rb n v0 v1 v10 (IntKind.i64.wrap (shrI .u64 (IntKind.u64.wrap (IntKind.i64.wrap (v10 + v11))) 1)))) none) none)
 (X_z_symMergeCmpFunc_Row_2 fuel rb fuel v0 v10 v1) := by kernel_rfl
theorem st_z_symMergeCmpFunc_Row_4 (fuel : Nat) (rb : Nat) (n : Nat)  (v0 : List Row) (v2 : Int) (v14 : Int) (v15 : Int) : X_z_symMergeCmpFunc_Row_4 fuel rb (n + 1) v0 v2 v14 v15 =
 cond (decide (v14 < v15))
 (cond (decide (0 ≤ v2) && decide (v2.toNat < v0.length)) (Option.bind (v0[0 + v2.toNat]?) fun e1 => cond (decide (0 ≤ (IntKind.i64.wrap (shrI .u64 (IntKind.u64.wrap (IntKind.i64.wrap (v14 + v15))) 1))) && decide (((IntKind.i64.wrap (shrI .u64 (IntKind.u64.wrap (IntKind.i64.wrap (v14 + v15))) 1)).toNat) < v0.length)) (Option.bind (v0[0 + ((IntKind.i64.wrap (shrI .u64 (IntKind.u64.wrap (IntKind.i64.wrap (v14 + v15))) 1)).toNat)]?) fun e2 => cond (!(decide ((r_i_CompareRows_0 e1.k e1.v e1.w e2.k e2.v e2.w) < 0)))
 (X_z_symMergeCmpFunc_Row_4 fuel rb n v0 v2 (IntKind.i64.wrap ((IntKind.i64.wrap (shrI .u64 (IntKind.u64.wrap (IntKind.i64.wrap (v14 + v15))) 1)) + 1)) v15)
 (X_z_symMergeCmpFunc_Row_4 fuel rb n v0 v2 v14 (IntKind.i64.wrap (shrI .u64 (IntKind.u64.wrap (IntKind.i64.wrap (v14 + v15))) 1)))) none) none)
 (X_z_symMergeCmpFunc_Row_6 fuel rb fuel v0 v14 v2) := by kernel_rfl
theorem st_z_symMergeCmpFunc_Row_8 (fuel : Nat) (rb : Nat) (n : Nat)  (v0 : List Row) (v1 : Int) (v2 : Int) (v3 : Int) (v18 : Int) (v19 : Int) (v20 : Int) (v21 : Int) (v22 : Int) : X_z_symMergeCmpFunc_Row_8 fuel rb (n + 1) v0 v1 v2 v3 v18 v19 v20 v21 v22 =
 cond (decide (v20 < v21))
 (cond (decide (0 ≤ (IntKind.i64.wrap (v22 - (IntKind.i64.wrap (shrI .u64 (IntKind.u64.wrap (IntKind.i64.wrap (v20 + v21))) 1))))) && decide (((IntKind.i64.wrap (v22 - (IntKind.i64.wrap (shrI .u64 (IntKind.u64.wrap (IntKind.i64.wrap (v20 + v21))) 1)))).toNat) < v0.length)) (Option.bind (v0[0 + ((IntKind.i64.wrap (v22 - (IntKind.i64.wrap (shrI .u64 (IntKind.u64.wrap (IntKind.i64.wrap (v20 + v21))) 1)))).toNat)]?) fun e1 => cond (decide (0 ≤ (IntKind.i64.wrap (shrI .u64 (IntKind.u64.wrap (IntKind.i64.wrap (v20 + v21))) 1))) && decide (((IntKind.i64.wrap (shrI .u64 (IntKind.u64.wrap (IntKind.i64.wrap (v20 + v21))) 1)).toNat) < v0.length)) (Option.bind (v0[0 + ((IntKind.i64.wrap (shrI .u64 (IntKind.u64.wrap (IntKind.i64.wrap (v20 + v21))) 1)).toNat)]?) fun e2 => cond (!(decide ((r_i_CompareRows_0 e1.k e1.v e1.w e2.k e2.v e2.w) < 0)))
 (X_z_symMergeCmpFunc_Row_8 fuel rb n v0 v1 v2 v3 v18 v19 (IntKind.i64.wrap ((IntKind.i64.wrap (shrI .u64 (IntKind.u64.wrap (IntKind.i64.wrap (v20 + v21))) 1)) + 1)) v21 v22)
 (X_z_symMergeCmpFunc_Row_8 fuel rb n v0 v1 v2 v3 v18 v19 v20 (IntKind.i64.wrap (shrI .u64 (IntKind.u64.wrap (IntKind.i64.wrap (v20 + v21))) 1)) v22)) none) none)
 (cond (decide (v20 < v2))
 (cond (decide (v2 < (IntKind.i64.wrap (v19 - v20))))
 (cond (rotDom v0 v20 v2 (IntKind.i64.wrap (v19 - v20))) (cond (decide (v1 < v20))
 (cond (decide (v20 < v18))
 (cond ((mergeDom (rotOut v0 v20.toNat v2.toNat (IntKind.i64.wrap (v19 - v20)).toNat) v1 v20 v18) && decide ((v18 - v1).toNat < rb)) (cond (decide (v18 < (IntKind.i64.wrap (v19 - v20))))
 (cond (decide ((IntKind.i64.wrap (v19 - v20)) < v3))
 (cond ((mergeDom (sortOut (rotOut v0 v20.toNat v2.toNat (IntKind.i64.wrap (v19 - v20)).toNat) v1.toNat v18.toNat) v18 (IntKind.i64.wrap (v19 - v20)) v3) && decide ((v3 - v18).toNat < rb)) (some [(true, .sl .row (sortOut (sortOut (rotOut v0 v20.toNat v2.toNat (IntKind.i64.wrap (v19 - v20)).toNat) v1.toNat v18.toNat) v18.toNat v3.toNat))]) none)
 (some [(true, .sl .row (sortOut (rotOut v0 v20.toNat v2.toNat (IntKind.i64.wrap (v19 - v20)).toNat) v1.toNat v18.toNat))]))
 (some [(true, .sl .row (sortOut (rotOut v0 v20.toNat v2.toNat (IntKind.i64.wrap (v19 - v20)).toNat) v1.toNat v18.toNat))])) none)
 (cond (decide (v18 < (IntKind.i64.wrap (v19 - v20))))
 (cond (decide ((IntKind.i64.wrap (v19 - v20)) < v3))
 (cond ((mergeDom (rotOut v0 v20.toNat v2.toNat (IntKind.i64.wrap (v19 - v20)).toNat) v18 (IntKind.i64.wrap (v19 - v20)) v3) && decide ((v3 - v18).toNat < rb)) (some [(true, .sl .row (sortOut (rotOut v0 v20.toNat v2.toNat (IntKind.i64.wrap (v19 - v20)).toNat) v18.toNat v3.toNat))]) none)
 (some [(true, .sl .row (rotOut v0 v20.toNat v2.toNat (IntKind.i64.wrap (v19 - v20)).toNat))]))
 (some [(true, .sl .row (rotOut v0 v20.toNat v2.toNat (IntKind.i64.wrap (v19 - v20)).toNat))])))
 (cond (decide (v18 < (IntKind.i64.wrap (v19 - v20))))
 (cond (decide ((IntKind.i64.wrap (v19 - v20)) < v3))
 (cond ((mergeDom (rotOut v0 v20.toNat v2.toNat (IntKind.i64.wrap (v19 - v20)).toNat) v18 (IntKind.i64.wrap (v19 - v20)) v3) && decide ((v3 - v18).toNat < rb)) (some [(true, .sl .row (sortOut (rotOut v0 v20.toNat v2.toNat (IntKind.i64.wrap (v19 - v20)).toNat) v18.toNat v3.toNat))]) none)
 (some [(true, .sl .row (rotOut v0 v20.toNat v2.toNat (IntKind.i64.wrap (v19 - v20)).toNat))]))
 (some [(true, .sl .row (rotOut v0 v20.toNat v2.toNat (IntKind.i64.wrap (v19 - v20)).toNat))]))) none)
 (cond (decide (v1 < v20))
 (cond (decide (v20 < v18))
 (cond ((mergeDom v0 v1 v20 v18) && decide ((v18 - v1).toNat < rb)) (cond (decide (v18 < (IntKind.i64.wrap (v19 - v20))))
 (cond (decide ((IntKind.i64.wrap (v19 - v20)) < v3))
 (cond ((mergeDom (sortOut v0 v1.toNat v18.toNat) v18 (IntKind.i64.wrap (v19 - v20)) v3) && decide ((v3 - v18).toNat < rb)) (some [(true, .sl .row (sortOut (sortOut v0 v1.toNat v18.toNat) v18.toNat v3.toNat))]) none)
 (some [(true, .sl .row (sortOut v0 v1.toNat v18.toNat))]))
 (some [(true, .sl .row (sortOut v0 v1.toNat v18.toNat))])) none)
 (cond (decide (v18 < (IntKind.i64.wrap (v19 - v20))))
 (cond (decide ((IntKind.i64.wrap (v19 - v20)) < v3))
 (cond ((mergeDom v0 v18 (IntKind.i64.wrap (v19 - v20)) v3) && decide ((v3 - v18).toNat < rb)) (some [(true, .sl .row (sortOut v0 v18.toNat v3.toNat))]) none)
 (some [(true, .sl .row v0)]))
 (some [(true, .sl .row v0)])))
 (cond (decide (v18 < (IntKind.i64.wrap (v19 - v20))))
 (cond (decide ((IntKind.i64.wrap (v19 - v20)) < v3))
 (cond ((mergeDom v0 v18 (IntKind.i64.wrap (v19 - v20)) v3) && decide ((v3 - v18).toNat < rb)) (some [(true, .sl .row (sortOut v0 v18.toNat v3.toNat))]) none)
 (some [(true, .sl .row v0)]))
 (some [(true, .sl .row v0)]))))
 (cond (decide (v1 < v20))
 (cond (decide (v20 < v18))
 (cond ((mergeDom v0 v1 v20 v18) && decide ((v18 - v1).toNat < rb)) (cond (decide (v18 < (IntKind.i64.wrap (v19 - v20))))
 (cond (decide ((IntKind.i64.wrap (v19 - v20)) < v3))
 (cond ((mergeDom (sortOut v0 v1.toNat v18.toNat) v18 (IntKind.i64.wrap (v19 - v20)) v3) && decide ((v3 - v18).toNat < rb)) (some [(true, .sl .row (sortOut (sortOut v0 v1.toNat v18.toNat) v18.toNat v3.toNat))]) none)
 (some [(true, .sl .row (sortOut v0 v1.toNat v18.toNat))]))
 (some [(true, .sl .row (sortOut v0 v1.toNat v18.toNat))])) none)
 (cond (decide (v18 < (IntKind.i64.wrap (v19 - v20))))
 (cond (decide ((IntKind.i64.wrap (v19 - v20)) < v3))
 (cond ((mergeDom v0 v18 (IntKind.i64.wrap (v19 - v20)) v3) && decide ((v3 - v18).toNat < rb)) (some [(true, .sl .row (sortOut v0 v18.toNat v3.toNat))]) none)
 (some [(true, .sl .row v0)]))
 (some [(true, .sl .row v0)])))
 (cond (decide (v18 < (IntKind.i64.wrap (v19 - v20))))
 (cond (decide ((IntKind.i64.wrap (v19 - v20)) < v3))
 (cond ((mergeDom v0 v18 (IntKind.i64.wrap (v19 - v20)) v3) && decide ((v3 - v18).toNat < rb)) (some [(true, .sl .row (sortOut v0 v18.toNat v3.toNat))]) none)
 (some [(true, .sl .row v0)]))
 (some [(true, .sl .row v0)])))) := by kernel_rfl
theorem st_z_symMergeCmpFunc_Row_2 (fuel : Nat) (rb : Nat) (n : Nat)  (v0 : List Row) (v10 : Int) (v13 : Int) : X_z_symMergeCmpFunc_Row_2 fuel rb (n + 1) v0 v10 v13 =
 cond (decide (v13 < (IntKind.i64.wrap (v10 - 1))))
 (cond (decide (0 ≤ (IntKind.i64.wrap (v13 + 1))) && decide (((IntKind.i64.wrap (v13 + 1)).toNat) < v0.length)) (Option.bind (v0[0 + ((IntKind.i64.wrap (v13 + 1)).toNat)]?) fun e1 => cond (decide (0 ≤ v13) && decide (v13.toNat < v0.length)) (Option.bind (v0[0 + v13.toNat]?) fun e2 => cond (decide (0 ≤ v13) && decide (v13.toNat < v0.length)) (Option.bind (v0[0 + v13.toNat]?) fun e3 => cond (decide (0 ≤ (IntKind.i64.wrap (v13 + 1))) && decide (((IntKind.i64.wrap (v13 + 1)).toNat) < (v0.set (0 + v13.toNat) (⟨e1.k, e1.v, e1.w⟩ : Row)).length)) (Option.bind ((v0.set (0 + v13.toNat) (⟨e1.k, e1.v, e1.w⟩ : Row))[0 + ((IntKind.i64.wrap (v13 + 1)).toNat)]?) fun e4 => X_z_symMergeCmpFunc_Row_2 fuel rb n ((v0.set (0 + v13.toNat) (⟨e1.k, e1.v, e1.w⟩ : Row)).set (0 + ((IntKind.i64.wrap (v13 + 1)).toNat)) (⟨e2.k, e2.v, e2.w⟩ : Row)) v10 (IntKind.i64.wrap (v13 + 1))) none) none) none) none)
 (some [(true, .sl .row v0)]) := by kernel_rfl
theorem st_z_symMergeCmpFunc_Row_6 (fuel : Nat) (rb : Nat) (n : Nat)  (v0 : List Row) (v14 : Int) (v17 : Int) : X_z_symMergeCmpFunc_Row_6 fuel rb (n + 1) v0 v14 v17 =
 cond (decide (v17 > v14))
 (cond (decide (0 ≤ (IntKind.i64.wrap (v17 - 1))) && decide (((IntKind.i64.wrap (v17 - 1)).toNat) < v0.length)) (Option.bind (v0[0 + ((IntKind.i64.wrap (v17 - 1)).toNat)]?) fun e1 => cond (decide (0 ≤ v17) && decide (v17.toNat < v0.length)) (Option.bind (v0[0 + v17.toNat]?) fun e2 => cond (decide (0 ≤ v17) && decide (v17.toNat < v0.length)) (Option.bind (v0[0 + v17.toNat]?) fun e3 => cond (decide (0 ≤ (IntKind.i64.wrap (v17 - 1))) && decide (((IntKind.i64.wrap (v17 - 1)).toNat) < (v0.set (0 + v17.toNat) (⟨e1.k, e1.v, e1.w⟩ : Row)).length)) (Option.bind ((v0.set (0 + v17.toNat) (⟨e1.k, e1.v, e1.w⟩ : Row))[0 + ((IntKind.i64.wrap (v17 - 1)).toNat)]?) fun e4 => X_z_symMergeCmpFunc_Row_6 fuel rb n ((v0.set (0 + v17.toNat) (⟨e1.k, e1.v, e1.w⟩ : Row)).set (0 + ((IntKind.i64.wrap (v17 - 1)).toNat)) (⟨e2.k, e2.v, e2.w⟩ : Row)) v14 (IntKind.i64.wrap (v17 - 1))) none) none) none) none)
 (some [(true, .sl .row v0)]) := by kernel_rfl

theorem sortedB_iff : ∀ {l : List Row}, sortedB l = true ↔ SortedR l
  | [] => by simp [sortedB]
  | x :: r => by simp [sortedB, sortedB_iff (l := r), List.pairwise_cons]
theorem half_eq {i j : Int} {a b : Nat} (hi : i = a) (hj : j = b) (h : a + b < 4398046511104) : IntKind.i64.wrap (shrI .u64 (IntKind.u64.wrap (IntKind.i64.wrap (i + j))) 1) = ((a + b) / 2 : Nat) := by
  subst hi hj
  have h1 : shrI .u64 ((a : Int) + b) 1 = ((a : Int) + b) / 2 := by
    unfold shrI
    have : (2 : Int) ^ (min (1 : Int).toNat (IntKind.u64.bits)) = 2 := rfl
    rw [this, Int.fdiv_eq_ediv_of_nonneg _ (by omega)]
  rw [wrap64 (n := (a : Int) + b) (by omega) (by omega), wrapu64 (by omega) (by omega), h1, wrap64 (by omega) (by omega)]
  omega
theorem cmpB_lt {a b : Row} : decide (r_i_CompareRows_0 a.k a.v a.w b.k b.v b.w < 0) = decide (¬ leR b a) := by
  have := @cmp_lt a b
  unfold cmpR at this
  simp only [this]
theorem take_le {l : List Row} (h : SortedR l) {k : Nat} (hl : k ≤ l.length) {p : Row} (hk : 0 < k → ∀ x, l[k - 1]? = some x → leR x p) : ∀ y ∈ l.take k, leR y p := by
  intro y hy
  obtain ⟨i, hi, rfl⟩ := List.mem_iff_getElem.1 hy
  simp only [List.length_take] at hi
  simp only [List.getElem_take]
  have h2 := hk (by omega) _ (List.getElem?_eq_getElem (show k - 1 < l.length by omega))
  by_cases he : i = k - 1
  · subst he; exact h2
  · exact leR_trans (List.pairwise_iff_getElem.1 h i (k - 1) (by omega) (by omega) (by omega)) h2
theorem drop_ge {l : List Row} (h : SortedR l) {k : Nat} {p : Row} (hk : k < l.length → ∀ x, l[k]? = some x → leR p x) : ∀ y ∈ l.drop k, leR p y := by
  intro y hy
  obtain ⟨i, hi, rfl⟩ := List.mem_iff_getElem.1 hy
  simp only [List.length_drop] at hi
  simp only [List.getElem_drop]
  have h2 := hk (by omega) _ (List.getElem?_eq_getElem (show k < l.length by omega))
  by_cases he : i = 0
  · subst he; exact h2
  · exact leR_trans h2 (List.pairwise_iff_getElem.1 h k (k + i) (by omega) (by omega) (by omega))

section
variable (fuel rb : Nat) (D : List Row)
theorem some_get {i : Nat} (h : i < D.length) : ∃ x, D[i]? = some x := ⟨_, List.getElem?_eq_getElem h⟩

theorem bs0 (hD : D.length < 1099511627776) (p : Row) (a : Nat) (hp : D[a]? = some p) : ∀ (s i j n : Nat), j - i ≤ s → s < n → i ≤ j → j ≤ D.length → ∃ r, i ≤ r ∧ r ≤ j ∧ (i < r → ∀ x, D[r - 1]? = some x → ¬ leR p x) ∧ (r < j → ∀ x, D[r]? = some x → leR p x) ∧
    X_z_symMergeCmpFunc_Row_0 fuel rb n D a i j = X_z_symMergeCmpFunc_Row_2 fuel rb fuel D r a := by
  have ha : a < D.length := (List.getElem?_eq_some_iff.1 hp).1
  intro s
  induction s with
  | zero =>
    intro i j n hs hn hij hj
    obtain ⟨k, rfl, -⟩ := bump hn
    obtain rfl : i = j := by omega
    exact ⟨i, Nat.le_refl _, Nat.le_refl _, fun h => by omega, fun h => by omega, by rw [st_z_symMergeCmpFunc_Row_0, cond_false' (by simp)]⟩
  | succ s ih =>
    intro i j n hs hn hij hj
    obtain ⟨k, rfl, hk⟩ := bump hn
    by_cases hlt : i < j
    · have hh := half_eq (i := (i : Int)) (j := (j : Int)) rfl rfl (by omega)
      generalize hh0 : (i + j) / 2 = h at hh
      have h1 : i ≤ h := by omega
      have h2 : h < j := by omega
      obtain ⟨x, hx⟩ := some_get D (show h < D.length by omega)
      rw [st_z_symMergeCmpFunc_Row_0, cond_true' (by simpa using hlt), hh]
      simp only [Int.toNat_natCast, Nat.zero_add]
      rw [cond_true' (chk (by omega)), hx]
      simp only [Option.bind_some]
      rw [cond_true' (chk ha), hp]
      simp only [Option.bind_some, cmpB_lt]
      by_cases hc : leR p x
      · rw [cond_false' (by simpa using hc)]
        obtain ⟨r, r1, r2, r3, r4, r5⟩ := ih i h k (by omega) (by omega) h1 (by omega)
        refine ⟨r, r1, by omega, r3, fun hr y hy => ?_, r5⟩
        by_cases he : r = h
        · subst he; rw [hx] at hy; cases hy; exact hc
        · exact r4 (by omega) y hy
      · rw [cond_true' (by simpa using hc)]
        obtain ⟨r, r1, r2, r3, r4, r5⟩ := ih (h + 1) j k (by omega) (by omega) (by omega) hj
        refine ⟨r, by omega, r2, fun hr y hy => ?_, r4, ?_⟩
        · by_cases he : r = h + 1
          · subst he; rw [Nat.add_sub_cancel, hx] at hy; cases hy; exact hc
          · exact r3 (by omega) y hy
        · rw [← r5, wrap64 (by omega) (by omega)]; rfl
    · obtain rfl : i = j := by omega
      exact ⟨i, Nat.le_refl _, Nat.le_refl _, fun h => by omega, fun h => by omega, by rw [st_z_symMergeCmpFunc_Row_0, cond_false' (by simp)]⟩

theorem bs4 (hD : D.length < 1099511627776) (q : Row) (m : Nat) (hp : D[m]? = some q) : ∀ (s i j n : Nat), j - i ≤ s → s < n → i ≤ j → j ≤ D.length → ∃ r, i ≤ r ∧ r ≤ j ∧ (i < r → ∀ x, D[r - 1]? = some x → leR x q) ∧ (r < j → ∀ x, D[r]? = some x → ¬ leR x q) ∧
    X_z_symMergeCmpFunc_Row_4 fuel rb n D m i j = X_z_symMergeCmpFunc_Row_6 fuel rb fuel D r m := by
  have ha : m < D.length := (List.getElem?_eq_some_iff.1 hp).1
  intro s
  induction s with
  | zero =>
    intro i j n hs hn hij hj
    obtain ⟨k, rfl, -⟩ := bump hn
    obtain rfl : i = j := by omega
    exact ⟨i, Nat.le_refl _, Nat.le_refl _, fun h => by omega, fun h => by omega, by rw [st_z_symMergeCmpFunc_Row_4, cond_false' (by simp)]⟩
  | succ s ih =>
    intro i j n hs hn hij hj
    obtain ⟨k, rfl, hk⟩ := bump hn
    by_cases hlt : i < j
    · have hh := half_eq (i := (i : Int)) (j := (j : Int)) rfl rfl (by omega)
      generalize hh0 : (i + j) / 2 = h at hh
      have h1 : i ≤ h := by omega
      have h2 : h < j := by omega
      obtain ⟨x, hx⟩ := some_get D (show h < D.length by omega)
      rw [st_z_symMergeCmpFunc_Row_4, cond_true' (by simpa using hlt), hh]
      simp only [Int.toNat_natCast, Nat.zero_add]
      rw [cond_true' (chk ha), hp]
      simp only [Option.bind_some]
      rw [cond_true' (chk (by omega)), hx]
      simp only [Option.bind_some, cmpB_lt]
      by_cases hc : leR x q
      · rw [cond_true' (by simpa using hc)]
        obtain ⟨r, r1, r2, r3, r4, r5⟩ := ih (h + 1) j k (by omega) (by omega) (by omega) hj
        refine ⟨r, by omega, r2, fun hr y hy => ?_, r4, ?_⟩
        · by_cases he : r = h + 1
          · subst he; rw [Nat.add_sub_cancel, hx] at hy; cases hy; exact hc
          · exact r3 (by omega) y hy
        · rw [← r5, wrap64 (by omega) (by omega)]; rfl
      · rw [cond_false' (by simpa using hc)]
        obtain ⟨r, r1, r2, r3, r4, r5⟩ := ih i h k (by omega) (by omega) h1 (by omega)
        refine ⟨r, r1, by omega, r3, fun hr y hy => ?_, r5⟩
        by_cases he : r = h
        · subst he; rw [hx] at hy; cases hy; exact hc
        · exact r4 (by omega) y hy
    · obtain rfl : i = j := by omega
      exact ⟨i, Nat.le_refl _, Nat.le_refl _, fun h => by omega, fun h => by omega, by rw [st_z_symMergeCmpFunc_Row_4, cond_false' (by simp)]⟩

def t2 (v3 v18 e : Int) (l : List Row) : Res := cond (decide (v18 < e)) (cond (decide (e < v3)) (cond (mergeDom l v18 e v3 && decide ((v3 - v18).toNat < rb)) (some [(true, .sl .row (sortOut l v18.toNat v3.toNat))]) none) (some [(true, .sl .row l)])) (some [(true, .sl .row l)])
def t1 (v1 v20 v3 v18 e : Int) (l : List Row) : Res := cond (decide (v1 < v20)) (cond (decide (v20 < v18)) (cond (mergeDom l v1 v20 v18 && decide ((v18 - v1).toNat < rb)) (t2 rb v3 v18 e (sortOut l v1.toNat v18.toNat)) none) (t2 rb v3 v18 e l)) (t2 rb v3 v18 e l)
def t0 (v1 v2 v20 v3 v18 e : Int) (l : List Row) : Res := cond (decide (v20 < v2)) (cond (decide (v2 < e)) (cond (rotDom l v20 v2 e) (t1 rb v1 v20 v3 v18 e (rotOut l v20.toNat v2.toNat e.toNat)) none) (t1 rb v1 v20 v3 v18 e l)) (t1 rb v1 v20 v3 v18 e l)
theorem st8 {n : Nat} {v1 v2 v3 v18 v19 v20 v22 : Int} : X_z_symMergeCmpFunc_Row_8 fuel rb (n + 1) D v1 v2 v3 v18 v19 v20 v20 v22 = t0 rb v1 v2 v20 v3 v18 (IntKind.i64.wrap (v19 - v20)) D := by
  rw [st_z_symMergeCmpFunc_Row_8, cond_false' (by simp)]
  rfl

theorem bs8 (hD : D.length < 1099511627776) (lo hi pN : Nat) (hpN : pN < 4398046511104) (hr : ∀ c, lo ≤ c → c < hi → c < D.length ∧ c ≤ pN ∧ pN - c < D.length) {v1 v2 v3 v18 v19 : Int} : ∀ (s i j n : Nat), j - i ≤ s → s < n → lo ≤ i → i ≤ j → j ≤ hi →
    (lo < i → ∀ x y, D[pN - (i - 1)]? = some x → D[i - 1]? = some y → leR y x) → (j < hi → ∀ x y, D[pN - j]? = some x → D[j]? = some y → ¬ leR y x) → hi ≤ D.length →
    ∃ r, lo ≤ r ∧ r ≤ hi ∧ (lo < r → ∀ x y, D[pN - (r - 1)]? = some x → D[r - 1]? = some y → leR y x) ∧ (r < hi → ∀ x y, D[pN - r]? = some x → D[r]? = some y → ¬ leR y x) ∧
    X_z_symMergeCmpFunc_Row_8 fuel rb n D v1 v2 v3 v18 v19 i j pN = t0 rb v1 v2 r v3 v18 (IntKind.i64.wrap (v19 - r)) D := by
  intro s
  induction s with
  | zero =>
    intro i j n hs hn hli hij hjh c1 c2 hh
    obtain ⟨k, rfl, -⟩ := bump hn
    obtain rfl : i = j := by omega
    exact ⟨i, hli, hjh, c1, c2, st8 ..⟩
  | succ s ih =>
    intro i j n hs hn hli hij hjh c1 c2 hhD
    obtain ⟨k, rfl, hk⟩ := bump hn
    by_cases hlt : i < j
    · have hh := half_eq (i := (i : Int)) (j := (j : Int)) rfl rfl (by omega)
      generalize hh0 : (i + j) / 2 = h at hh
      have h1 : i ≤ h := by omega
      have h2 : h < j := by omega
      obtain ⟨g1, g2, g3⟩ := hr h (by omega) (by omega)
      obtain ⟨y, hy⟩ := some_get D g1
      obtain ⟨x, hx⟩ := some_get D g3
      have hw : IntKind.i64.wrap ((pN : Int) - (h : Nat)) = (pN - h : Nat) := by rw [wrap64 (by omega) (by omega)]; omega
      rw [st_z_symMergeCmpFunc_Row_8, cond_true' (by simpa using hlt), hh, hw]
      simp only [Int.toNat_natCast, Nat.zero_add]
      rw [cond_true' (chk g3), hx]
      simp only [Option.bind_some]
      rw [cond_true' (chk g1), hy]
      simp only [Option.bind_some, cmpB_lt]
      by_cases hc : leR y x
      · rw [cond_true' (by simpa using hc)]
        obtain ⟨r, r1, r2, r3, r4, r5⟩ := ih (h + 1) j k (by omega) (by omega) (by omega) (by omega) hjh (fun _ x' y' hx' hy' => by
          rw [Nat.add_sub_cancel] at hx' hy'
          rw [hx] at hx'; rw [hy] at hy'; cases hx'; cases hy'; exact hc) c2 hhD
        refine ⟨r, r1, r2, r3, r4, ?_⟩
        rw [← r5, wrap64 (n := (h : Nat) + 1) (by omega) (by omega)]; rfl
      · rw [cond_false' (by simpa using hc)]
        exact ih i h k (by omega) (by omega) hli h1 (by omega) c1 (fun _ x' y' hx' hy' => by
          rw [hx] at hx'; rw [hy] at hy'; cases hx'; cases hy'; exact hc) hhD
    · obtain rfl : i = j := by omega
      exact ⟨i, hli, hjh, c1, c2, st8 ..⟩
end

/- Moving one row up, or down. -/
theorem mv_up (fuel rb : Nat) (R : List Row) (p : Row) : ∀ (Q1 A : List Row) (n : Nat), Q1.length < n → (A ++ p :: (Q1 ++ R)).length < 1099511627776 → ∀ v10 v13 : Int, v10 = (A.length + 1 + Q1.length : Nat) → v13 = A.length →
    X_z_symMergeCmpFunc_Row_2 fuel rb n (A ++ p :: (Q1 ++ R)) v10 v13 = some [(true, .sl .row (A ++ (Q1 ++ p :: R)))]
  | [], A, n, hn, hb, v10, v13, h10, h13 => by
    obtain ⟨k, rfl, -⟩ := bump hn
    simp only [List.length_append, List.length_cons] at hb
    rw [st_z_symMergeCmpFunc_Row_2, cond_false' (by rw [wrap64 (by omega) (by omega)]; simp at h10 ⊢; omega)]
    rfl
  | q :: Q1, A, n, hn, hb, v10, v13, h10, h13 => by
    obtain ⟨k, rfl, hk⟩ := bump hn
    simp only [List.length_append, List.length_cons] at hb h10 hk
    have hw : IntKind.i64.wrap (v13 + 1) = (A.length + 1 : Nat) := by rw [wrap64 (by omega) (by omega)]; omega
    rw [st_z_symMergeCmpFunc_Row_2, cond_true' (by rw [wrap64 (by omega) (by omega)]; simp; omega), hw, h13]
    simp only [List.cons_append, Int.toNat_natCast, Nat.zero_add, two_g1, two_g0, two_c0, two_c1, Option.bind_some, cond_true, two_s1, two_s0]
    have := mv_up fuel rb R p Q1 (A ++ [q]) k (by omega) (by simp; omega) v10 ((A.length + 1 : Nat) : Int) (by simp; omega) (by simp)
    simp only [List.append_assoc, List.singleton_append] at this
    exact this
theorem mv_down (fuel rb : Nat) (A : List Row) (q : Row) : ∀ (k : Nat) (P2 R : List Row) (n : Nat), P2.length = k → k < n → (A ++ (P2 ++ q :: R)).length < 1099511627776 → ∀ v14 v17 : Int, v14 = A.length → v17 = (A.length + P2.length : Nat) →
    X_z_symMergeCmpFunc_Row_6 fuel rb n (A ++ (P2 ++ q :: R)) v14 v17 = some [(true, .sl .row (A ++ q :: (P2 ++ R)))] := by
  intro k
  induction k with
  | zero =>
    intro P2 R n hk hn hb v14 v17 h14 h17
    obtain rfl := List.length_eq_zero_iff.1 hk
    obtain ⟨j, rfl, -⟩ := bump hn
    rw [st_z_symMergeCmpFunc_Row_6, cond_false' (by subst h14 h17; simp)]
    rfl
  | succ k ih =>
    intro P2 R n hk hn hb v14 v17 h14 h17
    obtain ⟨j, rfl, hj⟩ := bump hn
    obtain ⟨P, z, rfl⟩ : ∃ P z, P2 = P ++ [z] := by
      rcases List.eq_nil_or_concat P2 with e | ⟨S, z, e⟩
      · subst e; simp at hk
      · exact ⟨S, z, by simpa using e⟩
    simp only [List.length_append, List.length_cons, List.length_nil] at hb h17 hk
    have e1 : A ++ (P ++ [z] ++ q :: R) = (A ++ P) ++ z :: q :: R := by simp
    have hv : v17 = ((A ++ P).length + 1 : Nat) := by rw [h17]; simp only [List.length_append]; omega
    have hw : IntKind.i64.wrap (v17 - 1) = ((A ++ P).length : Nat) := by rw [wrap64 (by omega) (by omega)]; simp only [List.length_append]; omega
    rw [st_z_symMergeCmpFunc_Row_6, cond_true' (by subst h14 h17; simp; omega), hw, hv, e1]
    simp only [Int.toNat_natCast, Nat.zero_add, two_g1, two_g0, two_c0, two_c1, Option.bind_some, cond_true, two_s1, two_s0]
    have := ih P (z :: R) j (by omega) (by omega) (by simp; omega) v14 ((A ++ P).length : Nat) h14 (by simp)
    simp only [List.append_assoc, List.singleton_append, List.cons_append, List.nil_append] at this ⊢
    exact this
end Go.Proofs.Ytfjdfbdiichhdaa
