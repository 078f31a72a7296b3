/-
  The seat's table of types, and lemmas that all walks use. Conditions: none.
-/
import Derived.Test.YtfjdfbdiichhdaaK30
import Derived.Test.YtfjdfbdiichhdaaProg
import Derived.KernelRfl
namespace Go.Proofs.Ytfjdfbdiichhdaa
open Go Ai
set_option maxRecDepth 100000
def tys : List (Nat × TI) := [
  (2, ⟨false, [], [.d (.i .i64 0)], [.sc], none, some .i64, false, false, false⟩),
  (3, ⟨false, [], [.d (.i .i64 0)], [.sc], none, some .i64, false, false, false⟩),
  (4, ⟨false, [], [.d (.b false)], [.sc], none, none, false, true, false⟩),
  (5, ⟨false, [], [.d (.i .u8 0)], [.sc], none, some .u8, false, false, false⟩),
  (6, ⟨false, [], [.d (.i .u8 0)], [.sc], none, some .u8, false, false, false⟩),
  (7, ⟨true, [(0, 1), (1, 1), (2, 1), (3, 1)], [.d (.i .i64 0), .d (.i .i64 0), .d (.b false), .d (.i .u8 0)], [.sc, .sc, .sc, .sc], none, none, false, false, false⟩),
  (8, ⟨true, [(0, 1), (1, 1), (2, 1), (3, 1)], [.d (.i .i64 0), .d (.i .i64 0), .d (.b false), .d (.i .u8 0)], [.sc, .sc, .sc, .sc], none, none, false, false, false⟩),
  (9, ⟨false, [], [.d (.s [])], [.sc], none, none, true, false, false⟩),
  (10, ⟨false, [], [.d (.s [])], [.sc], none, none, true, false, false⟩),
  (11, ⟨false, [], [.d (.s [])], [.sc], none, none, true, false, false⟩),
  (12, ⟨false, [], [.d (.i .u64 0)], [.sc], none, some .u64, false, false, false⟩),
  (13, ⟨true, [(0, 1), (1, 1)], [.d (.s []), .d (.i .u64 0)], [.sc, .sc], none, none, false, false, false⟩),
  (14, ⟨true, [(0, 1), (1, 1)], [.d (.s []), .d (.i .u64 0)], [.sc, .sc], none, none, false, false, false⟩),
  (21, ⟨false, [], [.d (.i .i32 0)], [.sc], none, some .i32, false, false, false⟩),
  (22, ⟨false, [], [.nil], [.sl .row], some (.row, [.sc, .sc, .sc], [.d (.i .i64 0), .d (.i .i64 0), .d (.i .i64 0)]), none, false, false, false⟩),
  (23, ⟨false, [], [.nil], [.sl .run], some (.run, [.sl .row], [.nil]), none, false, false, false⟩),
  (24, ⟨true, [(0, 1), (1, 1), (2, 1), (3, 1), (4, 1), (5, 1), (6, 1), (7, 1), (8, 1), (9, 1)], [.nil, .d (.i .i64 0), .nil, .nil, .nil, .nil, .d (.i .i64 0), .d (.i .i64 0), .d (.i .i64 0), .d (.i .i64 0)], [.sl .row, .sc, .sl .row, .sl .row, .sl .row, .sl .run, .sc, .sc, .sc, .sc], none, none, false, false, false⟩),
  (25, ⟨true, [(0, 1), (1, 1), (2, 1), (3, 1), (4, 1), (5, 1), (6, 1), (7, 1), (8, 1), (9, 1)], [.nil, .d (.i .i64 0), .nil, .nil, .nil, .nil, .d (.i .i64 0), .d (.i .i64 0), .d (.i .i64 0), .d (.i .i64 0)], [.sl .row, .sc, .sl .row, .sl .row, .sl .row, .sl .run, .sc, .sc, .sc, .sc], none, none, false, false, false⟩),
  (26, ⟨true, [(0, 10), (10, 1)], [.nil, .d (.i .i64 0), .nil, .nil, .nil, .nil, .d (.i .i64 0), .d (.i .i64 0), .d (.i .i64 0), .d (.i .i64 0), .nil], [.sl .row, .sc, .sl .row, .sl .row, .sl .row, .sl .run, .sc, .sc, .sc, .sc, .sl .row], none, none, false, false, false⟩),
  (27, ⟨true, [(0, 10), (10, 1)], [.nil, .d (.i .i64 0), .nil, .nil, .nil, .nil, .d (.i .i64 0), .d (.i .i64 0), .d (.i .i64 0), .d (.i .i64 0), .nil], [.sl .row, .sc, .sl .row, .sl .row, .sl .row, .sl .run, .sc, .sc, .sc, .sc, .sl .row], none, none, false, false, false⟩),
  (30, ⟨false, [], [.nil], [.sl .row], some (.row, [.sc, .sc, .sc], [.d (.i .i64 0), .d (.i .i64 0), .d (.i .i64 0)]), none, false, false, false⟩),
  (31, ⟨false, [], [.nil], [.sl .run], some (.run, [.sl .row], [.nil]), none, false, false, false⟩),
  (32, ⟨true, [(0, 1), (1, 1), (2, 1), (3, 1), (4, 1), (5, 1), (6, 1), (7, 1), (8, 1), (9, 1)], [.nil, .d (.i .i64 0), .nil, .nil, .nil, .nil, .d (.i .i64 0), .d (.i .i64 0), .d (.i .i64 0), .d (.i .i64 0)], [.sl .row, .sc, .sl .row, .sl .row, .sl .row, .sl .run, .sc, .sc, .sc, .sc], none, none, false, false, false⟩),
  (33, ⟨true, [(0, 1), (1, 1), (2, 1), (3, 1), (4, 1), (5, 1), (6, 1), (7, 1), (8, 1), (9, 1)], [.nil, .d (.i .i64 0), .nil, .nil, .nil, .nil, .d (.i .i64 0), .d (.i .i64 0), .d (.i .i64 0), .d (.i .i64 0)], [.sl .row, .sc, .sl .row, .sl .row, .sl .row, .sl .run, .sc, .sc, .sc, .sc], none, none, false, false, false⟩),
  (34, ⟨true, [(0, 10), (10, 1)], [.nil, .d (.i .i64 0), .nil, .nil, .nil, .nil, .d (.i .i64 0), .d (.i .i64 0), .d (.i .i64 0), .d (.i .i64 0), .nil], [.sl .row, .sc, .sl .row, .sl .row, .sl .row, .sl .run, .sc, .sc, .sc, .sc, .sl .row], none, none, false, false, false⟩),
  (35, ⟨true, [(0, 10), (10, 1)], [.nil, .d (.i .i64 0), .nil, .nil, .nil, .nil, .d (.i .i64 0), .d (.i .i64 0), .d (.i .i64 0), .d (.i .i64 0), .nil], [.sl .row, .sc, .sl .row, .sl .row, .sl .row, .sl .run, .sc, .sc, .sc, .sc, .sl .row], none, none, false, false, false⟩),
  (39, ⟨false, [], [.nil], [.sl .cli], some (.cli, [.sc, .sc, .sc], [.d (.i .i64 0), .d (.i .i64 0), .d (.i .i64 0)]), none, false, false, false⟩),
  (40, ⟨true, [(0, 1), (1, 1), (2, 1), (3, 1)], [.d (.i .i64 0), .d (.i .i64 0), .nil, .nil], [.sc, .sc, .sl .cli, .sl .cli], none, none, false, false, false⟩),
  (41, ⟨true, [(0, 1), (1, 1), (2, 1), (3, 1)], [.d (.i .i64 0), .d (.i .i64 0), .nil, .nil], [.sc, .sc, .sl .cli, .sl .cli], none, none, false, false, false⟩),
  (42, ⟨false, [], [.nil], [.sl .slt], some (.slt, [.sc, .sc, .sl .row, .sc, .sl .row, .sl .row, .sl .row, .sl .run, .sc, .sc, .sc, .sc, .sl .tsk, .sc, .sc, .sl .gtk, .sc, .sc, .sl .row, .sl .pair, .sl .grp, .sc], [.d (.i .i64 0), .d (.i .i64 0), .nil, .d (.i .i64 0), .nil, .nil, .nil, .nil, .d (.i .i64 0), .d (.i .i64 0), .d (.i .i64 0), .d (.i .i64 0), .nil, .d (.i .i64 0), .d (.i .i64 0), .nil, .d (.i .i64 0), .d (.b false), .nil, .nil, .nil, .d (.b false)]), none, false, false, false⟩),
  (43, ⟨true, [(0, 4), (4, 1), (5, 1)], [.d (.i .i64 0), .d (.i .i64 0), .nil, .nil, .nil, .d (.i .i64 0)], [.sc, .sc, .sl .cli, .sl .cli, .sl .slt, .sc], none, none, false, false, false⟩),
  (44, ⟨true, [(0, 4), (4, 1), (5, 1)], [.d (.i .i64 0), .d (.i .i64 0), .nil, .nil, .nil, .d (.i .i64 0)], [.sc, .sc, .sl .cli, .sl .cli, .sl .slt, .sc], none, none, false, false, false⟩),
  (73, ⟨false, [], [.nil], [.sl .str], some (.str, [.sc], [.d (.s [])]), none, false, false, false⟩),
  (85, ⟨true, [(0, 1), (1, 1), (2, 1)], [.d (.i .i64 0), .d (.i .i64 0), .d (.i .i64 0)], [.sc, .sc, .sc], none, none, false, false, true⟩),
  (86, ⟨true, [(0, 1), (1, 1), (2, 1)], [.d (.i .i64 0), .d (.i .i64 0), .d (.i .i64 0)], [.sc, .sc, .sc], none, none, false, false, true⟩),
  (88, ⟨true, [(0, 1)], [.nil], [.sl .row], none, none, false, false, false⟩),
  (89, ⟨true, [(0, 1)], [.nil], [.sl .row], none, none, false, false, false⟩),
  (94, ⟨true, [(0, 1), (1, 1), (2, 1)], [.d (.i .i64 0), .d (.i .i64 0), .d (.i .i64 0)], [.sc, .sc, .sc], none, none, false, false, true⟩),
  (102, ⟨false, [], [.nil], [.sl .tsk], some (.tsk, [.sc, .sl .row, .sl .row, .sl .bool, .sc], [.d (.i .i64 0), .nil, .nil, .nil, .d (.i .i64 0)]), none, false, false, false⟩),
  (103, ⟨true, [(0, 1), (1, 1), (2, 1)], [.nil, .d (.i .i64 0), .d (.i .i64 0)], [.sl .tsk, .sc, .sc], none, none, false, false, false⟩),
  (104, ⟨true, [(0, 1), (1, 1), (2, 1)], [.nil, .d (.i .i64 0), .d (.i .i64 0)], [.sl .tsk, .sc, .sc], none, none, false, false, false⟩),
  (105, ⟨false, [], [.nil], [.sl .gtk], some (.gtk, [.sl .row, .sc], [.nil, .d (.i .i64 0)]), none, false, false, false⟩),
  (106, ⟨true, [(0, 1), (1, 1), (2, 1)], [.nil, .d (.i .i64 0), .d (.b false)], [.sl .gtk, .sc, .sc], none, none, false, false, false⟩),
  (107, ⟨true, [(0, 1), (1, 1), (2, 1)], [.nil, .d (.i .i64 0), .d (.b false)], [.sl .gtk, .sc, .sc], none, none, false, false, false⟩),
  (108, ⟨true, [(0, 1), (1, 10), (11, 3), (14, 3)], [.d (.i .i64 0), .nil, .d (.i .i64 0), .nil, .nil, .nil, .nil, .d (.i .i64 0), .d (.i .i64 0), .d (.i .i64 0), .d (.i .i64 0), .nil, .d (.i .i64 0), .d (.i .i64 0), .nil, .d (.i .i64 0), .d (.b false)], [.sc, .sl .row, .sc, .sl .row, .sl .row, .sl .row, .sl .run, .sc, .sc, .sc, .sc, .sl .tsk, .sc, .sc, .sl .gtk, .sc, .sc], none, none, false, false, false⟩),
  (109, ⟨true, [(0, 1), (1, 10), (11, 3), (14, 3)], [.d (.i .i64 0), .nil, .d (.i .i64 0), .nil, .nil, .nil, .nil, .d (.i .i64 0), .d (.i .i64 0), .d (.i .i64 0), .d (.i .i64 0), .nil, .d (.i .i64 0), .d (.i .i64 0), .nil, .d (.i .i64 0), .d (.b false)], [.sc, .sl .row, .sc, .sl .row, .sl .row, .sl .row, .sl .run, .sc, .sc, .sc, .sc, .sl .tsk, .sc, .sc, .sl .gtk, .sc, .sc], none, none, false, false, false⟩),
  (110, ⟨false, [], [.nil], [.sl .pair], some (.pair, [.sc, .sc, .sc, .sc, .sc, .sc, .sc], [.d (.i .i64 0), .d (.i .i64 0), .d (.i .i64 0), .d (.i .i64 0), .d (.i .i64 0), .d (.i .i64 0), .d (.b false)]), none, false, false, false⟩),
  (111, ⟨false, [], [.nil], [.sl .grp], some (.grp, [.sc, .sc, .sc, .sc, .sc], [.d (.i .i64 0), .d (.i .i64 0), .d (.i .i64 0), .d (.i .i64 0), .d (.i .i64 0)]), none, false, false, false⟩),
  (112, ⟨true, [(0, 1), (1, 1), (2, 1)], [.nil, .nil, .nil], [.sl .row, .sl .pair, .sl .grp], none, none, false, false, false⟩),
  (113, ⟨true, [(0, 1), (1, 1), (2, 1)], [.nil, .nil, .nil], [.sl .row, .sl .pair, .sl .grp], none, none, false, false, false⟩),
  (114, ⟨true, [(0, 1), (1, 17), (18, 3), (21, 1)], [.d (.i .i64 0), .d (.i .i64 0), .nil, .d (.i .i64 0), .nil, .nil, .nil, .nil, .d (.i .i64 0), .d (.i .i64 0), .d (.i .i64 0), .d (.i .i64 0), .nil, .d (.i .i64 0), .d (.i .i64 0), .nil, .d (.i .i64 0), .d (.b false), .nil, .nil, .nil, .d (.b false)], [.sc, .sc, .sl .row, .sc, .sl .row, .sl .row, .sl .row, .sl .run, .sc, .sc, .sc, .sc, .sl .tsk, .sc, .sc, .sl .gtk, .sc, .sc, .sl .row, .sl .pair, .sl .grp, .sc], none, none, false, false, false⟩),
  (115, ⟨true, [(0, 1), (1, 17), (18, 3), (21, 1)], [.d (.i .i64 0), .d (.i .i64 0), .nil, .d (.i .i64 0), .nil, .nil, .nil, .nil, .d (.i .i64 0), .d (.i .i64 0), .d (.i .i64 0), .d (.i .i64 0), .nil, .d (.i .i64 0), .d (.i .i64 0), .nil, .d (.i .i64 0), .d (.b false), .nil, .nil, .nil, .d (.b false)], [.sc, .sc, .sl .row, .sc, .sl .row, .sl .row, .sl .row, .sl .run, .sc, .sc, .sc, .sc, .sl .tsk, .sc, .sc, .sl .gtk, .sc, .sc, .sl .row, .sl .pair, .sl .grp, .sc], none, none, false, false, false⟩),
  (135, ⟨true, [(0, 1)], [.nil], [.sl .row], none, none, false, false, false⟩),
  (136, ⟨true, [(0, 1)], [.nil], [.sl .row], none, none, false, false, false⟩),
  (137, ⟨false, [], [.nil], [.sl .int], some (.int, [.sc], [.d (.i .i64 0)]), none, false, false, false⟩),
  (142, ⟨false, [], [.nil], [.sl .run], some (.run, [.sl .row], [.nil]), none, false, false, false⟩),
  (147, ⟨true, [(0, 1), (1, 1), (2, 1)], [.d (.i .i64 0), .d (.i .i64 0), .d (.i .i64 0)], [.sc, .sc, .sc], none, none, false, false, true⟩),
  (148, ⟨true, [(0, 1), (1, 1), (2, 1)], [.d (.i .i64 0), .d (.i .i64 0), .d (.i .i64 0)], [.sc, .sc, .sc], none, none, false, false, true⟩),
  (151, ⟨false, [], [.nil], [.sl .bool], some (.bool, [.sc], [.d (.b false)]), none, false, false, false⟩),
  (152, ⟨true, [(0, 1), (1, 1), (2, 1), (3, 1), (4, 1)], [.d (.i .i64 0), .nil, .nil, .nil, .d (.i .i64 0)], [.sc, .sl .row, .sl .row, .sl .bool, .sc], none, none, false, false, false⟩),
  (153, ⟨true, [(0, 1), (1, 1), (2, 1), (3, 1), (4, 1)], [.d (.i .i64 0), .nil, .nil, .nil, .d (.i .i64 0)], [.sc, .sl .row, .sl .row, .sl .bool, .sc], none, none, false, false, false⟩),
  (155, ⟨true, [(0, 1), (1, 1)], [.nil, .d (.i .i64 0)], [.sl .row, .sc], none, none, false, false, false⟩),
  (156, ⟨true, [(0, 1), (1, 1)], [.nil, .d (.i .i64 0)], [.sl .row, .sc], none, none, false, false, false⟩),
  (157, ⟨true, [(0, 3), (3, 3), (6, 1)], [.d (.i .i64 0), .d (.i .i64 0), .d (.i .i64 0), .d (.i .i64 0), .d (.i .i64 0), .d (.i .i64 0), .d (.b false)], [.sc, .sc, .sc, .sc, .sc, .sc, .sc], none, none, false, false, false⟩),
  (158, ⟨true, [(0, 3), (3, 3), (6, 1)], [.d (.i .i64 0), .d (.i .i64 0), .d (.i .i64 0), .d (.i .i64 0), .d (.i .i64 0), .d (.i .i64 0), .d (.b false)], [.sc, .sc, .sc, .sc, .sc, .sc, .sc], none, none, false, false, false⟩),
  (159, ⟨true, [(0, 1), (1, 1), (2, 1), (3, 1), (4, 1)], [.d (.i .i64 0), .d (.i .i64 0), .d (.i .i64 0), .d (.i .i64 0), .d (.i .i64 0)], [.sc, .sc, .sc, .sc, .sc], none, none, false, false, true⟩),
  (160, ⟨true, [(0, 1), (1, 1), (2, 1), (3, 1), (4, 1)], [.d (.i .i64 0), .d (.i .i64 0), .d (.i .i64 0), .d (.i .i64 0), .d (.i .i64 0)], [.sc, .sc, .sc, .sc, .sc], none, none, false, false, true⟩),
  (161, ⟨false, [], [.nil], [.sl .byte], some (.byte, [.sc], [.d (.i .u8 0)]), none, false, false, false⟩),
  (163, ⟨false, [], [.d (.i .u64 0)], [.sc], none, some .u64, false, false, false⟩),
  (185, ⟨false, [], [.d (.i .u32 0)], [.sc], none, some .u32, false, false, false⟩),
  (186, ⟨false, [], [.d (.i .u8 0)], [.sc], none, some .u8, false, false, false⟩),
  (187, ⟨false, [], [.d (.i .u8 0)], [.sc], none, some .u8, false, false, false⟩),
  (190, ⟨false, [], [.d (.i .i32 0)], [.sc], none, some .i32, false, false, false⟩),
  (191, ⟨false, [], [.d (.i .i32 0)], [.sc], none, some .i32, false, false, false⟩)]
theorem tysB_ok : tysB Try.prog tys = true := by kernel_rfl
theorem mixed : Try.prog.follows .mixedOrders = true := by kernel_rfl
/- Rounds of a loop: more than any run needs. -/
def BIG : Nat := 17592186044416

theorem runL_congr {E : Env} {fn : Func} {F S : FnL} {ds : List DV} (h1 : F.ps = S.ps) (h2 : F.res = S.res) (h3 : F.st = S.st) : runL E fn F ds = runL E fn S ds := by
  obtain ⟨a, b, c, d, e⟩ := F
  obtain ⟨a', b', c', d', e'⟩ := S
  simp only at h1 h2 h3
  subst h1 h2 h3
  rfl
theorem wrap64 {n : Int} (h1 : -9223372036854775808 ≤ n) (h2 : n < 9223372036854775808) : IntKind.i64.wrap n = n := by
  simp only [IntKind.wrap, IntKind.bits, IntKind.signed, Bool.true_and]
  split <;> rename_i h <;> simp at h <;> omega
theorem wrapu64 {n : Int} (h1 : 0 ≤ n) (h2 : n < 18446744073709551616) : IntKind.u64.wrap n = n := by
  simp only [IntKind.wrap, IntKind.bits, IntKind.signed, Bool.false_and]
  simp only [Bool.false_eq_true, if_false]; omega
theorem geti_nat {α : Type} {xs : List α} {k : Nat} : geti xs (k : Int) = xs[k]? := by simp [geti]
theorem geti_app {α : Type} {xs ys : List α} {e : α} {i : Int} (h : i = xs.length) : geti (xs ++ e :: ys) i = some e := by subst h; simp [geti]
theorem lim_ok {n : Nat} (h : n ≤ 68719476736) : lim n = true := by simpa [lim] using h
theorem cond_true' {α : Type} {b : Bool} {x y : α} (h : b = true) : cond b x y = x := by subst h; rfl
theorem cond_false' {α : Type} {b : Bool} {x y : α} (h : b = false) : cond b x y = y := by subst h; rfl
theorem getE_app {α : Type} {xs ys : List α} {e : α} {i : Nat} (h : i = xs.length) : (xs ++ e :: ys)[i]? = some e := by subst h; simp
theorem set_app {α : Type} {xs ys : List α} {e e' : α} {i : Nat} (h : i = xs.length) : (xs ++ e :: ys).set i e' = xs ++ e' :: ys := by subst h; simp
theorem chk {α : Type} {i : Nat} {l : List α} (h : i < l.length) : (decide (0 ≤ (i : Int)) && decide (i < l.length)) = true := by simp [h]
theorem bump {fuel' n : Nat} (h : n < fuel') : ∃ k, fuel' = k + 1 ∧ n ≤ k := ⟨fuel' - 1, by omega, by omega⟩
/- Two neighbours. -/
section
variable {α : Type} (L R : List α) (z y e : α)
theorem two_g1 : (L ++ z :: y :: R)[L.length + 1]? = some y := by simp
theorem two_g0 : (L ++ z :: y :: R)[L.length]? = some z := by simp
theorem two_s1 : (L ++ z :: y :: R).set (L.length + 1) e = L ++ z :: e :: R := by simp
theorem two_s0 : (L ++ z :: y :: R).set L.length e = L ++ e :: y :: R := by simp
theorem two_c1 : (decide (0 ≤ ((L.length + 1 : Nat) : Int)) && decide (L.length + 1 < (L ++ z :: y :: R).length)) = true := by simp; omega
theorem two_c0 : (decide (0 ≤ ((L.length : Nat) : Int)) && decide (L.length < (L ++ z :: y :: R).length)) = true := by simp
end
/- A loop over a list: what stands at its head. -/
section
variable {α : Type} {l pre suf : List α} {e : α} {i : Int}
theorem at_end (h : l = pre ++ []) (hi : i = pre.length) : decide (i < (l.length : Int)) = false := by subst h hi; simp
theorem at_mid (h : l = pre ++ e :: suf) (hi : i = pre.length) : decide (i < (l.length : Int)) = true := by subst h hi; simp; omega
theorem at_get (h : l = pre ++ e :: suf) (hi : i = pre.length) : geti l i = some e := by subst h; exact geti_app hi
theorem at_next (h : l = pre ++ e :: suf) (hi : i = pre.length) (hb : l.length < 1099511627776) : IntKind.i64.wrap (i + 1) = ((pre ++ [e]).length : Nat) := by
  subst h hi; simp only [List.length_append, List.length_cons, List.length_nil] at *; rw [wrap64 (by omega) (by omega)]; omega
theorem at_next' (h : l = pre ++ e :: suf) (hi : i = pre.length) (hb : l.length < 1099511627776) : IntKind.i64.wrap (i + 1) = i + 1 := by
  subst h hi; simp only [List.length_append, List.length_cons, List.length_nil] at *; rw [wrap64 (by omega) (by omega)]
theorem at_chk (h : l = pre ++ e :: suf) (hi : i = pre.length) : (decide (0 ≤ i) && decide (i.toNat < l.length)) = true := by subst h hi; simp
theorem at_arr (h : l = pre ++ e :: suf) (hi : i = pre.length) : l[0 + i.toNat]? = some e := by subst h hi; simp
theorem at_idx {e : α} {pre : List α} {i : Int} (hi : i = pre.length) : i + 1 = ((pre ++ [e]).length : Nat) := by subst hi; simp
theorem at_step (h : l = pre ++ e :: suf) : l = (pre ++ [e]) ++ suf := by subst h; simp
end
def small (n : Nat) : Bool := decide (n < 1099511627776)
theorem small_iff {n : Nat} : small n = true ↔ n < 1099511627776 := by simp [small]
def lil (n : Nat) : Bool := decide (n < 17179869184)
theorem lil_iff {n : Nat} : lil n = true ↔ n < 17179869184 := by simp [lil]
theorem lil_big {n : Nat} (h : n < 17179869184) : n < BIG := by unfold BIG; omega
theorem lil_small {n : Nat} (h : n < 17179869184) : n < 1099511627776 := by omega
theorem lil_lim {n : Nat} (h : n < 17179869184) : lim n = true := lim_ok (by omega)
theorem bigS : ∃ k, BIG = k + 1 := ⟨17592186044415, rfl⟩
theorem small_big {n : Nat} (h : n < 1099511627776) : n < BIG := by unfold BIG; omega
/- Answers behind a choice. -/
theorem pushB (c x y : Bool) : cond c (some [(true, DV.b x)]) (some [(true, DV.b y)]) = some [(true, DV.b (cond c x y))] := by cases c <;> rfl
theorem someB {x y : Bool} (h : x = y) : (some [(true, DV.b x)] : Option (List (Bool × DV))) = some [(true, DV.b y)] := by rw [h]
end Go.Proofs.Ytfjdfbdiichhdaa
