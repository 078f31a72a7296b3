import Derived.Test.YtfjdfbdiichhdaaK24
import Derived.Test.YtfjdfbdiichhdaaProg
import Derived.KernelRfl
namespace Go.Proofs.Ytfjdfbdiichhdaa
open Go Ai
set_option maxRecDepth 100000
theorem mixed : Try.prog.follows .mixedOrders = true := by kernel_rfl
def tys : List (Nat × TI) := [
  (3, ⟨false, [], [.d (.i .i64 0)], [.sc], none, some .i64, false, false, false⟩),
  (4, ⟨false, [], [.d (.b false)], [.sc], none, none, false, true, false⟩),
  (30, ⟨false, [], [.nil], [.sl .row], some (.row, [.sc, .sc, .sc], [.d (.i .i64 0), .d (.i .i64 0), .d (.i .i64 0)]), none, false, false, false⟩),
  (31, ⟨false, [], [.nil], [.sl .run], some (.run, [.sl .row], [.nil]), none, false, false, false⟩),
  (33, ⟨true, [(0, 1), (1, 1), (2, 1), (3, 1), (4, 1), (5, 1), (6, 1), (7, 1), (8, 1), (9, 1)], [.nil, .d (.i .i64 0), .nil, .nil, .nil, .nil, .d (.i .i64 0), .d (.i .i64 0), .d (.i .i64 0), .d (.i .i64 0)], [.sl .row, .sc, .sl .row, .sl .row, .sl .row, .sl .run, .sc, .sc, .sc, .sc], none, none, false, false, false⟩),
  (39, ⟨false, [], [.nil], [.sl .cli], some (.cli, [.sc, .sc, .sc], [.d (.i .i64 0), .d (.i .i64 0), .d (.i .i64 0)]), none, false, false, false⟩),
  (41, ⟨true, [(0, 1), (1, 1), (2, 1), (3, 1)], [.d (.i .i64 0), .d (.i .i64 0), .nil, .nil], [.sc, .sc, .sl .cli, .sl .cli], none, none, false, false, false⟩),
  (42, ⟨false, [], [.nil], [.sl .slt], some (.slt, [.sc, .sc, .sl .row, .sc, .sl .row, .sl .row, .sl .row, .sl .run, .sc, .sc, .sc, .sc, .sl .tsk, .sc, .sc, .sl .gtk, .sc, .sc, .sl .row, .sl .pair, .sl .grp, .sc], [.d (.i .i64 0), .d (.i .i64 0), .nil, .d (.i .i64 0), .nil, .nil, .nil, .nil, .d (.i .i64 0), .d (.i .i64 0), .d (.i .i64 0), .d (.i .i64 0), .nil, .d (.i .i64 0), .d (.i .i64 0), .nil, .d (.i .i64 0), .d (.b false), .nil, .nil, .nil, .d (.b false)]), none, false, false, false⟩),
  (44, ⟨true, [(0, 4), (4, 1), (5, 1)], [.d (.i .i64 0), .d (.i .i64 0), .nil, .nil, .nil, .d (.i .i64 0)], [.sc, .sc, .sl .cli, .sl .cli, .sl .slt, .sc], none, none, false, false, false⟩),
  (102, ⟨false, [], [.nil], [.sl .tsk], some (.tsk, [.sc, .sl .row, .sl .row, .sl .bool, .sc], [.d (.i .i64 0), .nil, .nil, .nil, .d (.i .i64 0)]), none, false, false, false⟩),
  (104, ⟨true, [(0, 1), (1, 1), (2, 1)], [.nil, .d (.i .i64 0), .d (.i .i64 0)], [.sl .tsk, .sc, .sc], none, none, false, false, false⟩),
  (105, ⟨false, [], [.nil], [.sl .gtk], some (.gtk, [.sl .row, .sc], [.nil, .d (.i .i64 0)]), none, false, false, false⟩),
  (107, ⟨true, [(0, 1), (1, 1), (2, 1)], [.nil, .d (.i .i64 0), .d (.b false)], [.sl .gtk, .sc, .sc], none, none, false, false, false⟩),
  (109, ⟨true, [(0, 1), (1, 10), (11, 3), (14, 3)], [.d (.i .i64 0), .nil, .d (.i .i64 0), .nil, .nil, .nil, .nil, .d (.i .i64 0), .d (.i .i64 0), .d (.i .i64 0), .d (.i .i64 0), .nil, .d (.i .i64 0), .d (.i .i64 0), .nil, .d (.i .i64 0), .d (.b false)], [.sc, .sl .row, .sc, .sl .row, .sl .row, .sl .row, .sl .run, .sc, .sc, .sc, .sc, .sl .tsk, .sc, .sc, .sl .gtk, .sc, .sc], none, none, false, false, false⟩),
  (110, ⟨false, [], [.nil], [.sl .pair], some (.pair, [.sc, .sc, .sc, .sc, .sc, .sc, .sc], [.d (.i .i64 0), .d (.i .i64 0), .d (.i .i64 0), .d (.i .i64 0), .d (.i .i64 0), .d (.i .i64 0), .d (.b false)]), none, false, false, false⟩),
  (111, ⟨false, [], [.nil], [.sl .grp], some (.grp, [.sc, .sc, .sc, .sc, .sc], [.d (.i .i64 0), .d (.i .i64 0), .d (.i .i64 0), .d (.i .i64 0), .d (.i .i64 0)]), none, false, false, false⟩),
  (113, ⟨true, [(0, 1), (1, 1), (2, 1)], [.nil, .nil, .nil], [.sl .row, .sl .pair, .sl .grp], none, none, false, false, false⟩),
  (115, ⟨true, [(0, 1), (1, 17), (18, 3), (21, 1)], [.d (.i .i64 0), .d (.i .i64 0), .nil, .d (.i .i64 0), .nil, .nil, .nil, .nil, .d (.i .i64 0), .d (.i .i64 0), .d (.i .i64 0), .d (.i .i64 0), .nil, .d (.i .i64 0), .d (.i .i64 0), .nil, .d (.i .i64 0), .d (.b false), .nil, .nil, .nil, .d (.b false)], [.sc, .sc, .sl .row, .sc, .sl .row, .sl .row, .sl .row, .sl .run, .sc, .sc, .sc, .sc, .sl .tsk, .sc, .sc, .sl .gtk, .sc, .sc, .sl .row, .sl .pair, .sl .grp, .sc], none, none, false, false, false⟩),
  (148, ⟨true, [(0, 1), (1, 1), (2, 1)], [.d (.i .i64 0), .d (.i .i64 0), .d (.i .i64 0)], [.sc, .sc, .sc], none, none, false, false, true⟩)]
theorem tysB_ok : tysB Try.prog tys = true := by kernel_rfl

/- f62 spec.l1In -/
def E62 (fuel : Nat) : Env := ⟨tys, [], [], fuel, 15⟩
theorem top62 (fuel : Nat) (p0 : Int) (p1 : Int) (p2 : Int) : runF (E62 fuel) Try.f62 [.i .i64 p0, .i .i64 p1, .i .i64 p2] =
 cond (decide (p0 ≥ p1))
 (some [(true, .b (decide (p0 ≤ p2)))])
 (some [(true, .b false)]) := by kernel_rfl
def d62 (p0 : Int) (p1 : Int) (p2 : Int) : Bool := true
def r62_0 (p0 : Int) (p1 : Int) (p2 : Int) : Bool := (cond (decide (p0 ≥ p1)) (decide (p0 ≤ p2)) false)
def F62 : Ai.Fn := ⟨[(false, [.sc]), (false, [.sc]), (false, [.sc])], [(false, 1)], false, fun ds => match ds with | [.i .i64 p0, .i .i64 p1, .i .i64 p2] => d62 p0 p1 p2 | _ => false, fun ds => match ds with | [.i .i64 p0, .i .i64 p1, .i .i64 p2] => some [(true, .b (r62_0 p0 p1 p2))] | _ => none⟩
theorem run62 (p0 : Int) (p1 : Int) (p2 : Int) (h : d62 p0 p1 p2 = true) : runF (E62 1) Try.f62 [.i .i64 p0, .i .i64 p1, .i .i64 p2] = some [(true, .b (r62_0 p0 p1 p2))] := by
  rw [top62]
  revert h
  unfold d62 r62_0
  first | (intro _; rfl) | (simp only [Bool.cond_eq_ite]; (repeat' split) <;> simp_all)
theorem fg62 : Try.prog.funcs[62]? = some Try.f62 := by kernel_rfl
theorem c62 : Ctr Try.prog 62 F62 := by
  refine ctr_of_run (code := Try.f62.body.getD .skip) mixed fg62 (by kernel_rfl) (Nat.le_of_ble_eq_true (by kernel_rfl)) (Nat.le_of_ble_eq_true (by kernel_rfl)) fun ds out hd hr => ?_
  dsimp only [F62] at hd hr
  split at hd
  · simp only [Option.some.injEq] at hr
    subst hr
    exact ⟨E62 1, tys_ok tysB_ok, FnsL.nil, rfl, by kernel_rfl, by kernel_rfl, run62 _ _ _ hd⟩
  · cases hd
/- f39 spec.NewBroker -/
def E39 (fuel : Nat) : Env := ⟨tys, [(62, callFn F62)], [], fuel, 10⟩
theorem top39 (fuel : Nat) (p0 : Int) : runF (E39 fuel) Try.f39 [.i .i64 p0] =
 cond (!(r62_0 p0 8 120))
 (some [(true, .i .i64 0), (true, .i .i64 0), (true, .sl .cli ([] : List Cli)), (true, .sl .cli ([] : List Cli)), (true, .b false)])
 (some [(true, .i .i64 p0), (true, .i .i64 0), (true, .sl .cli ([] : List Cli)), (true, .sl .cli ([] : List Cli)), (true, .b true)]) := by kernel_rfl
def d39 (p0 : Int) : Bool := true
def r39_0 (p0 : Int) : Int := (cond (!(r62_0 p0 8 120)) 0 p0)
def r39_1 (p0 : Int) : Int := 0
def r39_2 (p0 : Int) : List Cli := ([] : List Cli)
def r39_3 (p0 : Int) : List Cli := ([] : List Cli)
def r39_4 (p0 : Int) : Bool := (cond (!(r62_0 p0 8 120)) false true)
def F39 : Ai.Fn := ⟨[(false, [.sc])], [(true, 4), (false, 1)], false, fun ds => match ds with | [.i .i64 p0] => d39 p0 | _ => false, fun ds => match ds with | [.i .i64 p0] => some [(true, .i .i64 (r39_0 p0)), (true, .i .i64 (r39_1 p0)), (true, .sl .cli (r39_2 p0)), (true, .sl .cli (r39_3 p0)), (true, .b (r39_4 p0))] | _ => none⟩
theorem run39 (p0 : Int) (h : d39 p0 = true) : runF (E39 1) Try.f39 [.i .i64 p0] = some [(true, .i .i64 (r39_0 p0)), (true, .i .i64 (r39_1 p0)), (true, .sl .cli (r39_2 p0)), (true, .sl .cli (r39_3 p0)), (true, .b (r39_4 p0))] := by
  rw [top39]
  revert h
  unfold d39 r39_0 r39_1 r39_2 r39_3 r39_4
  first | (intro _; rfl) | (simp only [Bool.cond_eq_ite]; (repeat' split) <;> simp_all)
theorem fg39 : Try.prog.funcs[39]? = some Try.f39 := by kernel_rfl
theorem c39 : Ctr Try.prog 39 F39 := by
  refine ctr_of_run (code := Try.f39.body.getD .skip) mixed fg39 (by kernel_rfl) (Nat.le_of_ble_eq_true (by kernel_rfl)) (Nat.le_of_ble_eq_true (by kernel_rfl)) fun ds out hd hr => ?_
  dsimp only [F39] at hd hr
  split at hd
  · simp only [Option.some.injEq] at hr
    subst hr
    exact ⟨E39 1, tys_ok tysB_ok, FnsL.cons (fn_ok c62) fg62 rfl rfl (FnsL.nil), rfl, by kernel_rfl, by kernel_rfl, run39 _ hd⟩
  · cases hd
/- f12 spec.NewSystem -/
def E12 (fuel : Nat) : Env := ⟨tys, [(39, callFn F39)], [], fuel, 16⟩
theorem top12 (fuel : Nat) (p0 : Int) : runF (E12 fuel) Try.f12 [.i .i64 p0] =
 cond (!(r39_4 p0))
 (some [(true, .i .i64 0), (true, .i .i64 0), (true, .sl .cli ([] : List Cli)), (true, .sl .cli ([] : List Cli)), (true, .sl .slt ([] : List Slt)), (true, .i .i64 0), (true, .b false)])
 (some [(true, .i .i64 (r39_0 p0)), (true, .i .i64 0), (true, .sl .cli ([] : List Cli)), (true, .sl .cli ([] : List Cli)), (true, .sl .slt ([] : List Slt)), (true, .i .i64 0), (true, .b true)]) := by kernel_rfl
def d12 (p0 : Int) : Bool := true
def r12_0 (p0 : Int) : Int := (cond (!(r39_4 p0)) 0 (r39_0 p0))
def r12_1 (p0 : Int) : Int := 0
def r12_2 (p0 : Int) : List Cli := ([] : List Cli)
def r12_3 (p0 : Int) : List Cli := ([] : List Cli)
def r12_4 (p0 : Int) : List Slt := ([] : List Slt)
def r12_5 (p0 : Int) : Int := 0
def r12_6 (p0 : Int) : Bool := (cond (!(r39_4 p0)) false true)
def F12 : Ai.Fn := ⟨[(false, [.sc])], [(true, 6), (false, 1)], false, fun ds => match ds with | [.i .i64 p0] => d12 p0 | _ => false, fun ds => match ds with | [.i .i64 p0] => some [(true, .i .i64 (r12_0 p0)), (true, .i .i64 (r12_1 p0)), (true, .sl .cli (r12_2 p0)), (true, .sl .cli (r12_3 p0)), (true, .sl .slt (r12_4 p0)), (true, .i .i64 (r12_5 p0)), (true, .b (r12_6 p0))] | _ => none⟩
theorem run12 (p0 : Int) (h : d12 p0 = true) : runF (E12 1) Try.f12 [.i .i64 p0] = some [(true, .i .i64 (r12_0 p0)), (true, .i .i64 (r12_1 p0)), (true, .sl .cli (r12_2 p0)), (true, .sl .cli (r12_3 p0)), (true, .sl .slt (r12_4 p0)), (true, .i .i64 (r12_5 p0)), (true, .b (r12_6 p0))] := by
  rw [top12]
  revert h
  unfold d12 r12_0 r12_1 r12_2 r12_3 r12_4 r12_5 r12_6
  first | (intro _; rfl) | (simp only [Bool.cond_eq_ite]; (repeat' split) <;> simp_all)
theorem fg12 : Try.prog.funcs[12]? = some Try.f12 := by kernel_rfl
theorem c12 : Ctr Try.prog 12 F12 := by
  refine ctr_of_run (code := Try.f12.body.getD .skip) mixed fg12 (by kernel_rfl) (Nat.le_of_ble_eq_true (by kernel_rfl)) (Nat.le_of_ble_eq_true (by kernel_rfl)) fun ds out hd hr => ?_
  dsimp only [F12] at hd hr
  split at hd
  · simp only [Option.some.injEq] at hr
    subst hr
    exact ⟨E12 1, tys_ok tysB_ok, FnsL.cons (fn_ok c39) fg39 rfl rfl (FnsL.nil), rfl, by kernel_rfl, by kernel_rfl, run12 _ hd⟩
  · cases hd
/- f73 impl.within -/
def E73 (fuel : Nat) : Env := ⟨tys, [], [], fuel, 15⟩
theorem top73 (fuel : Nat) (p0 : Int) (p1 : Int) (p2 : Int) : runF (E73 fuel) Try.f73 [.i .i64 p0, .i .i64 p1, .i .i64 p2] =
 cond (decide (p0 ≥ p1))
 (some [(true, .b (decide (p0 ≤ p2)))])
 (some [(true, .b false)]) := by kernel_rfl
def d73 (p0 : Int) (p1 : Int) (p2 : Int) : Bool := true
def r73_0 (p0 : Int) (p1 : Int) (p2 : Int) : Bool := (cond (decide (p0 ≥ p1)) (decide (p0 ≤ p2)) false)
def F73 : Ai.Fn := ⟨[(false, [.sc]), (false, [.sc]), (false, [.sc])], [(false, 1)], false, fun ds => match ds with | [.i .i64 p0, .i .i64 p1, .i .i64 p2] => d73 p0 p1 p2 | _ => false, fun ds => match ds with | [.i .i64 p0, .i .i64 p1, .i .i64 p2] => some [(true, .b (r73_0 p0 p1 p2))] | _ => none⟩
theorem run73 (p0 : Int) (p1 : Int) (p2 : Int) (h : d73 p0 p1 p2 = true) : runF (E73 1) Try.f73 [.i .i64 p0, .i .i64 p1, .i .i64 p2] = some [(true, .b (r73_0 p0 p1 p2))] := by
  rw [top73]
  revert h
  unfold d73 r73_0
  first | (intro _; rfl) | (simp only [Bool.cond_eq_ite]; (repeat' split) <;> simp_all)
theorem fg73 : Try.prog.funcs[73]? = some Try.f73 := by kernel_rfl
theorem c73 : Ctr Try.prog 73 F73 := by
  refine ctr_of_run (code := Try.f73.body.getD .skip) mixed fg73 (by kernel_rfl) (Nat.le_of_ble_eq_true (by kernel_rfl)) (Nat.le_of_ble_eq_true (by kernel_rfl)) fun ds out hd hr => ?_
  dsimp only [F73] at hd hr
  split at hd
  · simp only [Option.some.injEq] at hr
    subst hr
    exact ⟨E73 1, tys_ok tysB_ok, FnsL.nil, rfl, by kernel_rfl, by kernel_rfl, run73 _ _ _ hd⟩
  · cases hd
/- f40 impl.NewBroker -/
def E40 (fuel : Nat) : Env := ⟨tys, [(73, callFn F73)], [], fuel, 10⟩
theorem top40 (fuel : Nat) (p0 : Int) : runF (E40 fuel) Try.f40 [.i .i64 p0] =
 cond (!(r73_0 p0 8 120))
 (some [(true, .i .i64 0), (true, .i .i64 0), (true, .sl .cli ([] : List Cli)), (true, .sl .cli ([] : List Cli)), (true, .b false)])
 (some [(true, .i .i64 p0), (true, .i .i64 0), (true, .sl .cli ([] : List Cli)), (true, .sl .cli ([] : List Cli)), (true, .b true)]) := by kernel_rfl
def d40 (p0 : Int) : Bool := true
def r40_0 (p0 : Int) : Int := (cond (!(r73_0 p0 8 120)) 0 p0)
def r40_1 (p0 : Int) : Int := 0
def r40_2 (p0 : Int) : List Cli := ([] : List Cli)
def r40_3 (p0 : Int) : List Cli := ([] : List Cli)
def r40_4 (p0 : Int) : Bool := (cond (!(r73_0 p0 8 120)) false true)
def F40 : Ai.Fn := ⟨[(false, [.sc])], [(true, 4), (false, 1)], false, fun ds => match ds with | [.i .i64 p0] => d40 p0 | _ => false, fun ds => match ds with | [.i .i64 p0] => some [(true, .i .i64 (r40_0 p0)), (true, .i .i64 (r40_1 p0)), (true, .sl .cli (r40_2 p0)), (true, .sl .cli (r40_3 p0)), (true, .b (r40_4 p0))] | _ => none⟩
theorem run40 (p0 : Int) (h : d40 p0 = true) : runF (E40 1) Try.f40 [.i .i64 p0] = some [(true, .i .i64 (r40_0 p0)), (true, .i .i64 (r40_1 p0)), (true, .sl .cli (r40_2 p0)), (true, .sl .cli (r40_3 p0)), (true, .b (r40_4 p0))] := by
  rw [top40]
  revert h
  unfold d40 r40_0 r40_1 r40_2 r40_3 r40_4
  first | (intro _; rfl) | (simp only [Bool.cond_eq_ite]; (repeat' split) <;> simp_all)
theorem fg40 : Try.prog.funcs[40]? = some Try.f40 := by kernel_rfl
theorem c40 : Ctr Try.prog 40 F40 := by
  refine ctr_of_run (code := Try.f40.body.getD .skip) mixed fg40 (by kernel_rfl) (Nat.le_of_ble_eq_true (by kernel_rfl)) (Nat.le_of_ble_eq_true (by kernel_rfl)) fun ds out hd hr => ?_
  dsimp only [F40] at hd hr
  split at hd
  · simp only [Option.some.injEq] at hr
    subst hr
    exact ⟨E40 1, tys_ok tysB_ok, FnsL.cons (fn_ok c73) fg73 rfl rfl (FnsL.nil), rfl, by kernel_rfl, by kernel_rfl, run40 _ hd⟩
  · cases hd
/- f13 impl.NewSystem -/
def E13 (fuel : Nat) : Env := ⟨tys, [(40, callFn F40)], [], fuel, 16⟩
theorem top13 (fuel : Nat) (p0 : Int) : runF (E13 fuel) Try.f13 [.i .i64 p0] =
 cond (!(r40_4 p0))
 (some [(true, .i .i64 0), (true, .i .i64 0), (true, .sl .cli ([] : List Cli)), (true, .sl .cli ([] : List Cli)), (true, .sl .slt ([] : List Slt)), (true, .i .i64 0), (true, .b false)])
 (some [(true, .i .i64 (r40_0 p0)), (true, .i .i64 0), (true, .sl .cli ([] : List Cli)), (true, .sl .cli ([] : List Cli)), (true, .sl .slt ([] : List Slt)), (true, .i .i64 0), (true, .b true)]) := by kernel_rfl
def d13 (p0 : Int) : Bool := true
def r13_0 (p0 : Int) : Int := (cond (!(r40_4 p0)) 0 (r40_0 p0))
def r13_1 (p0 : Int) : Int := 0
def r13_2 (p0 : Int) : List Cli := ([] : List Cli)
def r13_3 (p0 : Int) : List Cli := ([] : List Cli)
def r13_4 (p0 : Int) : List Slt := ([] : List Slt)
def r13_5 (p0 : Int) : Int := 0
def r13_6 (p0 : Int) : Bool := (cond (!(r40_4 p0)) false true)
def F13 : Ai.Fn := ⟨[(false, [.sc])], [(true, 6), (false, 1)], false, fun ds => match ds with | [.i .i64 p0] => d13 p0 | _ => false, fun ds => match ds with | [.i .i64 p0] => some [(true, .i .i64 (r13_0 p0)), (true, .i .i64 (r13_1 p0)), (true, .sl .cli (r13_2 p0)), (true, .sl .cli (r13_3 p0)), (true, .sl .slt (r13_4 p0)), (true, .i .i64 (r13_5 p0)), (true, .b (r13_6 p0))] | _ => none⟩
theorem run13 (p0 : Int) (h : d13 p0 = true) : runF (E13 1) Try.f13 [.i .i64 p0] = some [(true, .i .i64 (r13_0 p0)), (true, .i .i64 (r13_1 p0)), (true, .sl .cli (r13_2 p0)), (true, .sl .cli (r13_3 p0)), (true, .sl .slt (r13_4 p0)), (true, .i .i64 (r13_5 p0)), (true, .b (r13_6 p0))] := by
  rw [top13]
  revert h
  unfold d13 r13_0 r13_1 r13_2 r13_3 r13_4 r13_5 r13_6
  first | (intro _; rfl) | (simp only [Bool.cond_eq_ite]; (repeat' split) <;> simp_all)
theorem fg13 : Try.prog.funcs[13]? = some Try.f13 := by kernel_rfl
theorem c13 : Ctr Try.prog 13 F13 := by
  refine ctr_of_run (code := Try.f13.body.getD .skip) mixed fg13 (by kernel_rfl) (Nat.le_of_ble_eq_true (by kernel_rfl)) (Nat.le_of_ble_eq_true (by kernel_rfl)) fun ds out hd hr => ?_
  dsimp only [F13] at hd hr
  split at hd
  · simp only [Option.some.injEq] at hr
    subst hr
    exact ⟨E13 1, tys_ok tysB_ok, FnsL.cons (fn_ok c40) fg40 rfl rfl (FnsL.nil), rfl, by kernel_rfl, by kernel_rfl, run13 _ hd⟩
  · cases hd
/- f88 laws.eqClientS -/
def E88 (fuel : Nat) : Env := ⟨tys, [], [], fuel, 27⟩
theorem top88  : runF (E88 1) Try.f88 [.sl .cli [], .sl .cli []] =
 some [(true, .b true)] := by kernel_rfl
def d88  : Bool := true
def r88_0  : Bool := true
def F88 : Ai.Fn := ⟨[(false, [.sl .cli]), (false, [.sl .cli])], [(false, 1)], false, fun ds => match ds with | [.sl .cli [], .sl .cli []] => d88  | _ => false, fun ds => match ds with | [.sl .cli [], .sl .cli []] => some [(true, .b (r88_0 ))] | _ => none⟩
theorem run88  (h : d88  = true) : runF (E88 1) Try.f88 [.sl .cli [], .sl .cli []] = some [(true, .b (r88_0 ))] := by
  rw [top88]
  revert h
  unfold d88 r88_0
  first | (intro _; rfl) | (simp only [Bool.cond_eq_ite]; (repeat' split) <;> simp_all)
theorem fg88 : Try.prog.funcs[88]? = some Try.f88 := by kernel_rfl
theorem c88 : Ctr Try.prog 88 F88 := by
  refine ctr_of_run (code := Try.f88.body.getD .skip) mixed fg88 (by kernel_rfl) (Nat.le_of_ble_eq_true (by kernel_rfl)) (Nat.le_of_ble_eq_true (by kernel_rfl)) fun ds out hd hr => ?_
  dsimp only [F88] at hd hr
  split at hd
  · simp only [Option.some.injEq] at hr
    subst hr
    exact ⟨E88 1, tys_ok tysB_ok, FnsL.nil, rfl, by kernel_rfl, by kernel_rfl, run88  hd⟩
  · cases hd
/- f41 laws.eqBroker -/
def E41 (fuel : Nat) : Env := ⟨tys, [(88, callFn F88)], [], fuel, 27⟩
theorem top41 (p0_0 : Int) (p0_1 : Int) (p1_0 : Int) (p1_1 : Int) : runF (E41 1) Try.f41 [.i .i64 p0_0, .i .i64 p0_1, .sl .cli [], .sl .cli [], .i .i64 p1_0, .i .i64 p1_1, .sl .cli [], .sl .cli []] =
 cond (!decide (p0_0 = p1_0))
 (some [(true, .b false)])
 (cond (!decide (p0_1 = p1_1))
 (some [(true, .b false)])
 (some [(true, .b true)])) := by kernel_rfl
def d41 (p0_0 : Int) (p0_1 : Int) (p1_0 : Int) (p1_1 : Int) : Bool := true
def r41_0 (p0_0 : Int) (p0_1 : Int) (p1_0 : Int) (p1_1 : Int) : Bool := (cond (!decide (p0_0 = p1_0)) false (cond (!decide (p0_1 = p1_1)) false true))
def F41 : Ai.Fn := ⟨[(true, [.sc, .sc, .sl .cli, .sl .cli]), (true, [.sc, .sc, .sl .cli, .sl .cli])], [(false, 1)], false, fun ds => match ds with | [.i .i64 p0_0, .i .i64 p0_1, .sl .cli [], .sl .cli [], .i .i64 p1_0, .i .i64 p1_1, .sl .cli [], .sl .cli []] => d41 p0_0 p0_1 p1_0 p1_1 | _ => false, fun ds => match ds with | [.i .i64 p0_0, .i .i64 p0_1, .sl .cli [], .sl .cli [], .i .i64 p1_0, .i .i64 p1_1, .sl .cli [], .sl .cli []] => some [(true, .b (r41_0 p0_0 p0_1 p1_0 p1_1))] | _ => none⟩
theorem run41 (p0_0 : Int) (p0_1 : Int) (p1_0 : Int) (p1_1 : Int) (h : d41 p0_0 p0_1 p1_0 p1_1 = true) : runF (E41 1) Try.f41 [.i .i64 p0_0, .i .i64 p0_1, .sl .cli [], .sl .cli [], .i .i64 p1_0, .i .i64 p1_1, .sl .cli [], .sl .cli []] = some [(true, .b (r41_0 p0_0 p0_1 p1_0 p1_1))] := by
  rw [top41]
  revert h
  unfold d41 r41_0
  first | (intro _; rfl) | (simp only [Bool.cond_eq_ite]; (repeat' split) <;> simp_all)
theorem fg41 : Try.prog.funcs[41]? = some Try.f41 := by kernel_rfl
theorem c41 : Ctr Try.prog 41 F41 := by
  refine ctr_of_run (code := Try.f41.body.getD .skip) mixed fg41 (by kernel_rfl) (Nat.le_of_ble_eq_true (by kernel_rfl)) (Nat.le_of_ble_eq_true (by kernel_rfl)) fun ds out hd hr => ?_
  dsimp only [F41] at hd hr
  split at hd
  · simp only [Option.some.injEq] at hr
    subst hr
    exact ⟨E41 1, tys_ok tysB_ok, FnsL.cons (fn_ok c88) fg88 rfl rfl (FnsL.nil), rfl, by kernel_rfl, by kernel_rfl, run41 _ _ _ _ hd⟩
  · cases hd
/- f42 laws.eqSlotS -/
def E42 (fuel : Nat) : Env := ⟨tys, [], [], fuel, 27⟩
theorem top42  : runF (E42 1) Try.f42 [.sl .slt [], .sl .slt []] =
 some [(true, .b true)] := by kernel_rfl
def d42  : Bool := true
def r42_0  : Bool := true
def F42 : Ai.Fn := ⟨[(false, [.sl .slt]), (false, [.sl .slt])], [(false, 1)], false, fun ds => match ds with | [.sl .slt [], .sl .slt []] => d42  | _ => false, fun ds => match ds with | [.sl .slt [], .sl .slt []] => some [(true, .b (r42_0 ))] | _ => none⟩
theorem run42  (h : d42  = true) : runF (E42 1) Try.f42 [.sl .slt [], .sl .slt []] = some [(true, .b (r42_0 ))] := by
  rw [top42]
  revert h
  unfold d42 r42_0
  first | (intro _; rfl) | (simp only [Bool.cond_eq_ite]; (repeat' split) <;> simp_all)
theorem fg42 : Try.prog.funcs[42]? = some Try.f42 := by kernel_rfl
theorem c42 : Ctr Try.prog 42 F42 := by
  refine ctr_of_run (code := Try.f42.body.getD .skip) mixed fg42 (by kernel_rfl) (Nat.le_of_ble_eq_true (by kernel_rfl)) (Nat.le_of_ble_eq_true (by kernel_rfl)) fun ds out hd hr => ?_
  dsimp only [F42] at hd hr
  split at hd
  · simp only [Option.some.injEq] at hr
    subst hr
    exact ⟨E42 1, tys_ok tysB_ok, FnsL.nil, rfl, by kernel_rfl, by kernel_rfl, run42  hd⟩
  · cases hd
/- f14 laws.eqSystem -/
def E14 (fuel : Nat) : Env := ⟨tys, [(41, callFn F41), (42, callFn F42)], [], fuel, 22⟩
theorem top14 (p0_0 : Int) (p0_1 : Int) (p0_5 : Int) (p1_0 : Int) (p1_1 : Int) (p1_5 : Int) : runF (E14 1) Try.f14 [.i .i64 p0_0, .i .i64 p0_1, .sl .cli [], .sl .cli [], .sl .slt [], .i .i64 p0_5, .i .i64 p1_0, .i .i64 p1_1, .sl .cli [], .sl .cli [], .sl .slt [], .i .i64 p1_5] =
 cond (!(r41_0 p0_0 p0_1 p1_0 p1_1))
 (some [(true, .b false)])
 (cond (!decide (p0_5 = p1_5))
 (some [(true, .b false)])
 (some [(true, .b true)])) := by kernel_rfl
def d14 (p0_0 : Int) (p0_1 : Int) (p0_5 : Int) (p1_0 : Int) (p1_1 : Int) (p1_5 : Int) : Bool := true
def r14_0 (p0_0 : Int) (p0_1 : Int) (p0_5 : Int) (p1_0 : Int) (p1_1 : Int) (p1_5 : Int) : Bool := (cond (!(r41_0 p0_0 p0_1 p1_0 p1_1)) false (cond (!decide (p0_5 = p1_5)) false true))
def F14 : Ai.Fn := ⟨[(true, [.sc, .sc, .sl .cli, .sl .cli, .sl .slt, .sc]), (true, [.sc, .sc, .sl .cli, .sl .cli, .sl .slt, .sc])], [(false, 1)], false, fun ds => match ds with | [.i .i64 p0_0, .i .i64 p0_1, .sl .cli [], .sl .cli [], .sl .slt [], .i .i64 p0_5, .i .i64 p1_0, .i .i64 p1_1, .sl .cli [], .sl .cli [], .sl .slt [], .i .i64 p1_5] => d14 p0_0 p0_1 p0_5 p1_0 p1_1 p1_5 | _ => false, fun ds => match ds with | [.i .i64 p0_0, .i .i64 p0_1, .sl .cli [], .sl .cli [], .sl .slt [], .i .i64 p0_5, .i .i64 p1_0, .i .i64 p1_1, .sl .cli [], .sl .cli [], .sl .slt [], .i .i64 p1_5] => some [(true, .b (r14_0 p0_0 p0_1 p0_5 p1_0 p1_1 p1_5))] | _ => none⟩
theorem run14 (p0_0 : Int) (p0_1 : Int) (p0_5 : Int) (p1_0 : Int) (p1_1 : Int) (p1_5 : Int) (h : d14 p0_0 p0_1 p0_5 p1_0 p1_1 p1_5 = true) : runF (E14 1) Try.f14 [.i .i64 p0_0, .i .i64 p0_1, .sl .cli [], .sl .cli [], .sl .slt [], .i .i64 p0_5, .i .i64 p1_0, .i .i64 p1_1, .sl .cli [], .sl .cli [], .sl .slt [], .i .i64 p1_5] = some [(true, .b (r14_0 p0_0 p0_1 p0_5 p1_0 p1_1 p1_5))] := by
  rw [top14]
  revert h
  unfold d14 r14_0
  first | (intro _; rfl) | (simp only [Bool.cond_eq_ite]; (repeat' split) <;> simp_all)
theorem fg14 : Try.prog.funcs[14]? = some Try.f14 := by kernel_rfl
theorem c14 : Ctr Try.prog 14 F14 := by
  refine ctr_of_run (code := Try.f14.body.getD .skip) mixed fg14 (by kernel_rfl) (Nat.le_of_ble_eq_true (by kernel_rfl)) (Nat.le_of_ble_eq_true (by kernel_rfl)) fun ds out hd hr => ?_
  dsimp only [F14] at hd hr
  split at hd
  · simp only [Option.some.injEq] at hr
    subst hr
    exact ⟨E14 1, tys_ok tysB_ok, FnsL.cons (fn_ok c41) fg41 rfl rfl (FnsL.cons (fn_ok c42) fg42 rfl rfl (FnsL.nil)), rfl, by kernel_rfl, by kernel_rfl, run14 _ _ _ _ _ _ hd⟩
  · cases hd
/- f90 laws.markClientS -/
def E90 (fuel : Nat) : Env := ⟨tys, [], [], fuel, 34⟩
theorem top90 (p1 : Int) : runF (E90 1) Try.f90 [.sl .cli [], .i .i64 p1] =
 some [(true, .i .i64 p1)] := by kernel_rfl
def d90 (p1 : Int) : Bool := true
def r90_0 (p1 : Int) : Int := p1
def F90 : Ai.Fn := ⟨[(false, [.sl .cli]), (false, [.sc])], [(false, 1)], false, fun ds => match ds with | [.sl .cli [], .i .i64 p1] => d90 p1 | _ => false, fun ds => match ds with | [.sl .cli [], .i .i64 p1] => some [(true, .i .i64 (r90_0 p1))] | _ => none⟩
theorem run90 (p1 : Int) (h : d90 p1 = true) : runF (E90 1) Try.f90 [.sl .cli [], .i .i64 p1] = some [(true, .i .i64 (r90_0 p1))] := by
  rw [top90]
  revert h
  unfold d90 r90_0
  first | (intro _; rfl) | (simp only [Bool.cond_eq_ite]; (repeat' split) <;> simp_all)
theorem fg90 : Try.prog.funcs[90]? = some Try.f90 := by kernel_rfl
theorem c90 : Ctr Try.prog 90 F90 := by
  refine ctr_of_run (code := Try.f90.body.getD .skip) mixed fg90 (by kernel_rfl) (Nat.le_of_ble_eq_true (by kernel_rfl)) (Nat.le_of_ble_eq_true (by kernel_rfl)) fun ds out hd hr => ?_
  dsimp only [F90] at hd hr
  split at hd
  · simp only [Option.some.injEq] at hr
    subst hr
    exact ⟨E90 1, tys_ok tysB_ok, FnsL.nil, rfl, by kernel_rfl, by kernel_rfl, run90 _ hd⟩
  · cases hd
/- f43 laws.markBroker -/
def E43 (fuel : Nat) : Env := ⟨tys, [(90, callFn F90)], [], fuel, 14⟩
theorem top43 (p0_0 : Int) (p0_1 : Int) (p1 : Int) : runF (E43 1) Try.f43 [.i .i64 p0_0, .i .i64 p0_1, .sl .cli [], .sl .cli [], .i .i64 p1] =
 some [(true, .i .i64 (r90_0 (r90_0 p1)))] := by kernel_rfl
def d43 (p0_0 : Int) (p0_1 : Int) (p1 : Int) : Bool := true
def r43_0 (p0_0 : Int) (p0_1 : Int) (p1 : Int) : Int := (r90_0 (r90_0 p1))
def F43 : Ai.Fn := ⟨[(true, [.sc, .sc, .sl .cli, .sl .cli]), (false, [.sc])], [(false, 1)], false, fun ds => match ds with | [.i .i64 p0_0, .i .i64 p0_1, .sl .cli [], .sl .cli [], .i .i64 p1] => d43 p0_0 p0_1 p1 | _ => false, fun ds => match ds with | [.i .i64 p0_0, .i .i64 p0_1, .sl .cli [], .sl .cli [], .i .i64 p1] => some [(true, .i .i64 (r43_0 p0_0 p0_1 p1))] | _ => none⟩
theorem run43 (p0_0 : Int) (p0_1 : Int) (p1 : Int) (h : d43 p0_0 p0_1 p1 = true) : runF (E43 1) Try.f43 [.i .i64 p0_0, .i .i64 p0_1, .sl .cli [], .sl .cli [], .i .i64 p1] = some [(true, .i .i64 (r43_0 p0_0 p0_1 p1))] := by
  rw [top43]
  revert h
  unfold d43 r43_0
  first | (intro _; rfl) | (simp only [Bool.cond_eq_ite]; (repeat' split) <;> simp_all)
theorem fg43 : Try.prog.funcs[43]? = some Try.f43 := by kernel_rfl
theorem c43 : Ctr Try.prog 43 F43 := by
  refine ctr_of_run (code := Try.f43.body.getD .skip) mixed fg43 (by kernel_rfl) (Nat.le_of_ble_eq_true (by kernel_rfl)) (Nat.le_of_ble_eq_true (by kernel_rfl)) fun ds out hd hr => ?_
  dsimp only [F43] at hd hr
  split at hd
  · simp only [Option.some.injEq] at hr
    subst hr
    exact ⟨E43 1, tys_ok tysB_ok, FnsL.cons (fn_ok c90) fg90 rfl rfl (FnsL.nil), rfl, by kernel_rfl, by kernel_rfl, run43 _ _ _ hd⟩
  · cases hd
/- f44 laws.markSlotS -/
def E44 (fuel : Nat) : Env := ⟨tys, [], [], fuel, 207⟩
theorem top44 (p1 : Int) : runF (E44 1) Try.f44 [.sl .slt [], .i .i64 p1] =
 some [(true, .i .i64 p1)] := by kernel_rfl
def d44 (p1 : Int) : Bool := true
def r44_0 (p1 : Int) : Int := p1
def F44 : Ai.Fn := ⟨[(false, [.sl .slt]), (false, [.sc])], [(false, 1)], false, fun ds => match ds with | [.sl .slt [], .i .i64 p1] => d44 p1 | _ => false, fun ds => match ds with | [.sl .slt [], .i .i64 p1] => some [(true, .i .i64 (r44_0 p1))] | _ => none⟩
theorem run44 (p1 : Int) (h : d44 p1 = true) : runF (E44 1) Try.f44 [.sl .slt [], .i .i64 p1] = some [(true, .i .i64 (r44_0 p1))] := by
  rw [top44]
  revert h
  unfold d44 r44_0
  first | (intro _; rfl) | (simp only [Bool.cond_eq_ite]; (repeat' split) <;> simp_all)
theorem fg44 : Try.prog.funcs[44]? = some Try.f44 := by kernel_rfl
theorem c44 : Ctr Try.prog 44 F44 := by
  refine ctr_of_run (code := Try.f44.body.getD .skip) mixed fg44 (by kernel_rfl) (Nat.le_of_ble_eq_true (by kernel_rfl)) (Nat.le_of_ble_eq_true (by kernel_rfl)) fun ds out hd hr => ?_
  dsimp only [F44] at hd hr
  split at hd
  · simp only [Option.some.injEq] at hr
    subst hr
    exact ⟨E44 1, tys_ok tysB_ok, FnsL.nil, rfl, by kernel_rfl, by kernel_rfl, run44 _ hd⟩
  · cases hd
/- f15 laws.markSystem -/
def E15 (fuel : Nat) : Env := ⟨tys, [(43, callFn F43), (44, callFn F44)], [], fuel, 14⟩
theorem top15 (p0_0 : Int) (p0_1 : Int) (p0_5 : Int) (p1 : Int) : runF (E15 1) Try.f15 [.i .i64 p0_0, .i .i64 p0_1, .sl .cli [], .sl .cli [], .sl .slt [], .i .i64 p0_5, .i .i64 p1] =
 some [(true, .i .i64 (r44_0 (r43_0 p0_0 p0_1 p1)))] := by kernel_rfl
def d15 (p0_0 : Int) (p0_1 : Int) (p0_5 : Int) (p1 : Int) : Bool := true
def r15_0 (p0_0 : Int) (p0_1 : Int) (p0_5 : Int) (p1 : Int) : Int := (r44_0 (r43_0 p0_0 p0_1 p1))
def F15 : Ai.Fn := ⟨[(true, [.sc, .sc, .sl .cli, .sl .cli, .sl .slt, .sc]), (false, [.sc])], [(false, 1)], false, fun ds => match ds with | [.i .i64 p0_0, .i .i64 p0_1, .sl .cli [], .sl .cli [], .sl .slt [], .i .i64 p0_5, .i .i64 p1] => d15 p0_0 p0_1 p0_5 p1 | _ => false, fun ds => match ds with | [.i .i64 p0_0, .i .i64 p0_1, .sl .cli [], .sl .cli [], .sl .slt [], .i .i64 p0_5, .i .i64 p1] => some [(true, .i .i64 (r15_0 p0_0 p0_1 p0_5 p1))] | _ => none⟩
theorem run15 (p0_0 : Int) (p0_1 : Int) (p0_5 : Int) (p1 : Int) (h : d15 p0_0 p0_1 p0_5 p1 = true) : runF (E15 1) Try.f15 [.i .i64 p0_0, .i .i64 p0_1, .sl .cli [], .sl .cli [], .sl .slt [], .i .i64 p0_5, .i .i64 p1] = some [(true, .i .i64 (r15_0 p0_0 p0_1 p0_5 p1))] := by
  rw [top15]
  revert h
  unfold d15 r15_0
  first | (intro _; rfl) | (simp only [Bool.cond_eq_ite]; (repeat' split) <;> simp_all)
theorem fg15 : Try.prog.funcs[15]? = some Try.f15 := by kernel_rfl
theorem c15 : Ctr Try.prog 15 F15 := by
  refine ctr_of_run (code := Try.f15.body.getD .skip) mixed fg15 (by kernel_rfl) (Nat.le_of_ble_eq_true (by kernel_rfl)) (Nat.le_of_ble_eq_true (by kernel_rfl)) fun ds out hd hr => ?_
  dsimp only [F15] at hd hr
  split at hd
  · simp only [Option.some.injEq] at hr
    subst hr
    exact ⟨E15 1, tys_ok tysB_ok, FnsL.cons (fn_ok c43) fg43 rfl rfl (FnsL.cons (fn_ok c44) fg44 rfl rfl (FnsL.nil)), rfl, by kernel_rfl, by kernel_rfl, run15 _ _ _ _ hd⟩
  · cases hd
/- f96 laws.heldClientS -/
def E96 (fuel : Nat) : Env := ⟨tys, [], [], fuel, 40⟩
theorem top96 (p1 : Int) : runF (E96 1) Try.f96 [.sl .cli [], .i .i64 p1] =
 some [(true, .i .i64 p1)] := by kernel_rfl
def d96 (p1 : Int) : Bool := true
def r96_0 (p1 : Int) : Int := p1
def F96 : Ai.Fn := ⟨[(false, [.sl .cli]), (false, [.sc])], [(false, 1)], false, fun ds => match ds with | [.sl .cli [], .i .i64 p1] => d96 p1 | _ => false, fun ds => match ds with | [.sl .cli [], .i .i64 p1] => some [(true, .i .i64 (r96_0 p1))] | _ => none⟩
theorem run96 (p1 : Int) (h : d96 p1 = true) : runF (E96 1) Try.f96 [.sl .cli [], .i .i64 p1] = some [(true, .i .i64 (r96_0 p1))] := by
  rw [top96]
  revert h
  unfold d96 r96_0
  first | (intro _; rfl) | (simp only [Bool.cond_eq_ite]; (repeat' split) <;> simp_all)
theorem fg96 : Try.prog.funcs[96]? = some Try.f96 := by kernel_rfl
theorem c96 : Ctr Try.prog 96 F96 := by
  refine ctr_of_run (code := Try.f96.body.getD .skip) mixed fg96 (by kernel_rfl) (Nat.le_of_ble_eq_true (by kernel_rfl)) (Nat.le_of_ble_eq_true (by kernel_rfl)) fun ds out hd hr => ?_
  dsimp only [F96] at hd hr
  split at hd
  · simp only [Option.some.injEq] at hr
    subst hr
    exact ⟨E96 1, tys_ok tysB_ok, FnsL.nil, rfl, by kernel_rfl, by kernel_rfl, run96 _ hd⟩
  · cases hd
/- f45 laws.heldBroker -/
def E45 (fuel : Nat) : Env := ⟨tys, [(96, callFn F96)], [], fuel, 18⟩
theorem top45 (p0_0 : Int) (p0_1 : Int) (p1 : Int) : runF (E45 1) Try.f45 [.i .i64 p0_0, .i .i64 p0_1, .sl .cli [], .sl .cli [], .i .i64 p1] =
 cond (decide ((r96_0 p1) < 0))
 (some [(true, .i .i64 (-1))])
 (cond (decide ((r96_0 (r96_0 p1)) < 0))
 (some [(true, .i .i64 (-1))])
 (some [(true, .i .i64 (r96_0 (r96_0 p1)))])) := by kernel_rfl
def d45 (p0_0 : Int) (p0_1 : Int) (p1 : Int) : Bool := true
def r45_0 (p0_0 : Int) (p0_1 : Int) (p1 : Int) : Int := (cond (decide ((r96_0 p1) < 0)) (-1) (cond (decide ((r96_0 (r96_0 p1)) < 0)) (-1) (r96_0 (r96_0 p1))))
def F45 : Ai.Fn := ⟨[(true, [.sc, .sc, .sl .cli, .sl .cli]), (false, [.sc])], [(false, 1)], false, fun ds => match ds with | [.i .i64 p0_0, .i .i64 p0_1, .sl .cli [], .sl .cli [], .i .i64 p1] => d45 p0_0 p0_1 p1 | _ => false, fun ds => match ds with | [.i .i64 p0_0, .i .i64 p0_1, .sl .cli [], .sl .cli [], .i .i64 p1] => some [(true, .i .i64 (r45_0 p0_0 p0_1 p1))] | _ => none⟩
theorem run45 (p0_0 : Int) (p0_1 : Int) (p1 : Int) (h : d45 p0_0 p0_1 p1 = true) : runF (E45 1) Try.f45 [.i .i64 p0_0, .i .i64 p0_1, .sl .cli [], .sl .cli [], .i .i64 p1] = some [(true, .i .i64 (r45_0 p0_0 p0_1 p1))] := by
  rw [top45]
  revert h
  unfold d45 r45_0
  first | (intro _; rfl) | (simp only [Bool.cond_eq_ite]; (repeat' split) <;> simp_all)
theorem fg45 : Try.prog.funcs[45]? = some Try.f45 := by kernel_rfl
theorem c45 : Ctr Try.prog 45 F45 := by
  refine ctr_of_run (code := Try.f45.body.getD .skip) mixed fg45 (by kernel_rfl) (Nat.le_of_ble_eq_true (by kernel_rfl)) (Nat.le_of_ble_eq_true (by kernel_rfl)) fun ds out hd hr => ?_
  dsimp only [F45] at hd hr
  split at hd
  · simp only [Option.some.injEq] at hr
    subst hr
    exact ⟨E45 1, tys_ok tysB_ok, FnsL.cons (fn_ok c96) fg96 rfl rfl (FnsL.nil), rfl, by kernel_rfl, by kernel_rfl, run45 _ _ _ hd⟩
  · cases hd
/- f46 laws.heldSlotS -/
def E46 (fuel : Nat) : Env := ⟨tys, [], [], fuel, 251⟩
theorem top46 (p1 : Int) : runF (E46 1) Try.f46 [.sl .slt [], .i .i64 p1] =
 some [(true, .i .i64 p1)] := by kernel_rfl
def d46 (p1 : Int) : Bool := true
def r46_0 (p1 : Int) : Int := p1
def F46 : Ai.Fn := ⟨[(false, [.sl .slt]), (false, [.sc])], [(false, 1)], false, fun ds => match ds with | [.sl .slt [], .i .i64 p1] => d46 p1 | _ => false, fun ds => match ds with | [.sl .slt [], .i .i64 p1] => some [(true, .i .i64 (r46_0 p1))] | _ => none⟩
theorem run46 (p1 : Int) (h : d46 p1 = true) : runF (E46 1) Try.f46 [.sl .slt [], .i .i64 p1] = some [(true, .i .i64 (r46_0 p1))] := by
  rw [top46]
  revert h
  unfold d46 r46_0
  first | (intro _; rfl) | (simp only [Bool.cond_eq_ite]; (repeat' split) <;> simp_all)
theorem fg46 : Try.prog.funcs[46]? = some Try.f46 := by kernel_rfl
theorem c46 : Ctr Try.prog 46 F46 := by
  refine ctr_of_run (code := Try.f46.body.getD .skip) mixed fg46 (by kernel_rfl) (Nat.le_of_ble_eq_true (by kernel_rfl)) (Nat.le_of_ble_eq_true (by kernel_rfl)) fun ds out hd hr => ?_
  dsimp only [F46] at hd hr
  split at hd
  · simp only [Option.some.injEq] at hr
    subst hr
    exact ⟨E46 1, tys_ok tysB_ok, FnsL.nil, rfl, by kernel_rfl, by kernel_rfl, run46 _ hd⟩
  · cases hd
/- f16 laws.heldSystem -/
def E16 (fuel : Nat) : Env := ⟨tys, [(45, callFn F45), (46, callFn F46)], [], fuel, 18⟩
theorem top16 (p0_0 : Int) (p0_1 : Int) (p0_5 : Int) (p1 : Int) : runF (E16 1) Try.f16 [.i .i64 p0_0, .i .i64 p0_1, .sl .cli [], .sl .cli [], .sl .slt [], .i .i64 p0_5, .i .i64 p1] =
 cond (decide ((r45_0 p0_0 p0_1 p1) < 0))
 (some [(true, .i .i64 (-1))])
 (cond (decide ((r46_0 (r45_0 p0_0 p0_1 p1)) < 0))
 (some [(true, .i .i64 (-1))])
 (some [(true, .i .i64 (r46_0 (r45_0 p0_0 p0_1 p1)))])) := by kernel_rfl
def d16 (p0_0 : Int) (p0_1 : Int) (p0_5 : Int) (p1 : Int) : Bool := true
def r16_0 (p0_0 : Int) (p0_1 : Int) (p0_5 : Int) (p1 : Int) : Int := (cond (decide ((r45_0 p0_0 p0_1 p1) < 0)) (-1) (cond (decide ((r46_0 (r45_0 p0_0 p0_1 p1)) < 0)) (-1) (r46_0 (r45_0 p0_0 p0_1 p1))))
def F16 : Ai.Fn := ⟨[(true, [.sc, .sc, .sl .cli, .sl .cli, .sl .slt, .sc]), (false, [.sc])], [(false, 1)], false, fun ds => match ds with | [.i .i64 p0_0, .i .i64 p0_1, .sl .cli [], .sl .cli [], .sl .slt [], .i .i64 p0_5, .i .i64 p1] => d16 p0_0 p0_1 p0_5 p1 | _ => false, fun ds => match ds with | [.i .i64 p0_0, .i .i64 p0_1, .sl .cli [], .sl .cli [], .sl .slt [], .i .i64 p0_5, .i .i64 p1] => some [(true, .i .i64 (r16_0 p0_0 p0_1 p0_5 p1))] | _ => none⟩
theorem run16 (p0_0 : Int) (p0_1 : Int) (p0_5 : Int) (p1 : Int) (h : d16 p0_0 p0_1 p0_5 p1 = true) : runF (E16 1) Try.f16 [.i .i64 p0_0, .i .i64 p0_1, .sl .cli [], .sl .cli [], .sl .slt [], .i .i64 p0_5, .i .i64 p1] = some [(true, .i .i64 (r16_0 p0_0 p0_1 p0_5 p1))] := by
  rw [top16]
  revert h
  unfold d16 r16_0
  first | (intro _; rfl) | (simp only [Bool.cond_eq_ite]; (repeat' split) <;> simp_all)
theorem fg16 : Try.prog.funcs[16]? = some Try.f16 := by kernel_rfl
theorem c16 : Ctr Try.prog 16 F16 := by
  refine ctr_of_run (code := Try.f16.body.getD .skip) mixed fg16 (by kernel_rfl) (Nat.le_of_ble_eq_true (by kernel_rfl)) (Nat.le_of_ble_eq_true (by kernel_rfl)) fun ds out hd hr => ?_
  dsimp only [F16] at hd hr
  split at hd
  · simp only [Option.some.injEq] at hr
    subst hr
    exact ⟨E16 1, tys_ok tysB_ok, FnsL.cons (fn_ok c45) fg45 rfl rfl (FnsL.cons (fn_ok c46) fg46 rfl rfl (FnsL.nil)), rfl, by kernel_rfl, by kernel_rfl, run16 _ _ _ _ hd⟩
  · cases hd
/- f4 laws.FnExactNewSystem -/
def E4 (fuel : Nat) : Env := ⟨tys, [(12, callFn F12), (13, callFn F13), (14, callFn F14), (15, callFn F15), (16, callFn F16)], [], fuel, 63⟩
theorem top4 (fuel : Nat) (p0 : Int) : runF (E4 fuel) Try.f4 [.i .i64 p0] =
 cond (!(r14_0 (r13_0 p0) 0 0 (r12_0 p0) 0 0))
 (some [(true, .b false)])
 (cond (!decide ((r13_6 p0) = (r12_6 p0)))
 (some [(true, .b false)])
 (cond (decide ((r16_0 (r13_0 p0) 0 0 1) < 0))
 (some [(true, .b false)])
 (cond (!decide ((r16_0 (r13_0 p0) 0 0 1) = (r15_0 (r13_0 p0) 0 0 1)))
 (some [(true, .b false)])
 (cond (!(r14_0 (r13_0 p0) 0 0 (r12_0 p0) 0 0))
 (some [(true, .b false)])
 (cond (!decide ((r13_6 p0) = (r12_6 p0)))
 (some [(true, .b false)])
 (cond (decide ((r16_0 (r13_0 p0) 0 0 1) < 0))
 (some [(true, .b false)])
 (cond (!decide ((r16_0 (r13_0 p0) 0 0 1) = (r15_0 (r13_0 p0) 0 0 1)))
 (some [(true, .b false)])
 (some [(true, .b true)])))))))) := by kernel_rfl
def d4 (p0 : Int) : Bool := true
def r4_0 (p0 : Int) : Bool := (cond (!(r14_0 (r13_0 p0) 0 0 (r12_0 p0) 0 0)) false (cond (!decide ((r13_6 p0) = (r12_6 p0))) false (cond (decide ((r16_0 (r13_0 p0) 0 0 1) < 0)) false (cond (!decide ((r16_0 (r13_0 p0) 0 0 1) = (r15_0 (r13_0 p0) 0 0 1))) false (cond (!(r14_0 (r13_0 p0) 0 0 (r12_0 p0) 0 0)) false (cond (!decide ((r13_6 p0) = (r12_6 p0))) false (cond (decide ((r16_0 (r13_0 p0) 0 0 1) < 0)) false (cond (!decide ((r16_0 (r13_0 p0) 0 0 1) = (r15_0 (r13_0 p0) 0 0 1))) false true))))))))
def F4 : Ai.Fn := ⟨[(false, [.sc])], [(false, 1)], false, fun ds => match ds with | [.i .i64 p0] => d4 p0 | _ => false, fun ds => match ds with | [.i .i64 p0] => some [(true, .b (r4_0 p0))] | _ => none⟩
theorem run4 (p0 : Int) (h : d4 p0 = true) : runF (E4 1) Try.f4 [.i .i64 p0] = some [(true, .b (r4_0 p0))] := by
  rw [top4]
  revert h
  unfold d4 r4_0
  first | (intro _; rfl) | (simp only [Bool.cond_eq_ite]; (repeat' split) <;> simp_all)
theorem fg4 : Try.prog.funcs[4]? = some Try.f4 := by kernel_rfl
theorem c4 : Ctr Try.prog 4 F4 := by
  refine ctr_of_run (code := Try.f4.body.getD .skip) mixed fg4 (by kernel_rfl) (Nat.le_of_ble_eq_true (by kernel_rfl)) (Nat.le_of_ble_eq_true (by kernel_rfl)) fun ds out hd hr => ?_
  dsimp only [F4] at hd hr
  split at hd
  · simp only [Option.some.injEq] at hr
    subst hr
    exact ⟨E4 1, tys_ok tysB_ok, FnsL.cons (fn_ok c12) fg12 rfl rfl (FnsL.cons (fn_ok c13) fg13 rfl rfl (FnsL.cons (fn_ok c14) fg14 rfl rfl (FnsL.cons (fn_ok c15) fg15 rfl rfl (FnsL.cons (fn_ok c16) fg16 rfl rfl (FnsL.nil))))), rfl, by kernel_rfl, by kernel_rfl, run4 _ hd⟩
  · cases hd
theorem law4 (p0 : Int) : r4_0 p0 = true := by
  have h62 : ∀ a b c : Int, r62_0 a b c = r73_0 a b c := fun _ _ _ => rfl
  unfold r4_0
  simp only [r12_0, r12_6, r13_0, r13_6, r39_0, r39_4, r40_0, r40_4, r14_0, r41_0, r16_0, r15_0, r45_0, r46_0, r44_0, r43_0, r90_0, r96_0, h62]
  cases r73_0 p0 8 120 <;> simp <;> decide
end Go.Proofs.Ytfjdfbdiichhdaa
