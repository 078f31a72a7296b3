/-
  The formats of sorters and checkpoints. Conditions: at most 2^20 runs; numbers of 64 bits.
-/
import Derived.Test.YtfjdfbdiichhdaaB4
import Derived.Test.YtfjdfbdiichhdaaC3
namespace Go.Proofs.Ytfjdfbdiichhdaa
open Go Ai
set_option maxRecDepth 100000
theorem vRows_of {l m : List Row} (h : ∀ r ∈ l, vRow r = true) (hm : l.length ≤ m.length) (hv : vRows m = true) : vRows l = true := by
  have := vRows_len hv
  simp only [vRows, Bool.and_eq_true, List.all_eq_true, decide_eq_true_eq]
  exact ⟨h, by omega⟩
theorem mergeS_mem : ∀ {a b : List Row} {r : Row}, r ∈ mergeS a b → r ∈ a ∨ r ∈ b
  | [], b, r, h => by rw [mergeS] at h; exact .inr h
  | x :: a, [], r, h => by rw [mergeS] at h <;> first | exact .inl h | simp
  | x :: a, y :: b, r, h => by
    rw [mergeS] at h
    split at h
    · rcases List.mem_cons.1 h with h | h
      · subst h; simp
      · rcases mergeS_mem h with h | h
        · exact .inl (by simp [h])
        · exact .inr h
    · rcases List.mem_cons.1 h with h | h
      · subst h; simp
      · rcases mergeS_mem h with h | h
        · exact .inl h
        · exact .inr (by simp [h])
  termination_by a b => a.length + b.length
theorem eqBag_perm {a b : List Row} (h : eqBag a b = true) : a.Perm b := by
  have h := of_decide_eq_true h
  exact ((sortR_perm a).symm.trans (h ▸ List.Perm.refl _)).trans (sortR_perm b)
theorem vS_rows {s : Srt} (h : vSorter s = true) : (vRows s.heap = true ∧ vRows s.defd = true ∧ vRows s.outp = true) ∧ (0 ≤ s.pos ∧ s.pos ≤ 24) ∧ (0 ≤ s.lp ∧ s.lp ≤ 24) ∧ (0 ≤ s.rp ∧ s.rp ≤ 24) ∧ (1 ≤ s.phase ∧ s.phase ≤ 4) ∧ 0 ≤ s.wr ∧ s.runs.length ≤ 24 := by
  obtain ⟨h1, h2, h3, h4, h5, h6⟩ := vS_parts h
  have l1 := vRows_len h1
  have h2 := inB_iff.1 h2
  have hin : ∀ r ∈ s.input, vRow r = true := by
    simp only [vRows, Bool.and_eq_true, List.all_eq_true] at h1
    exact h1.1
  have hruns : s.runs.length ≤ s.runs.flatten.length := by
    have : ∀ l : List (List Row), (∀ r ∈ l, vRun r = true) → l.length ≤ l.flatten.length := by
      intro l
      induction l with
      | nil => intro _; simp
      | cons a l ih =>
        intro hl
        have := vRun_len (hl a (by simp))
        have := ih fun r hr => hl r (by simp [hr])
        simp only [List.length_cons, List.flatten_cons, List.length_append]
        omega
    exact this _ (by simpa using h3)
  unfold vPhase at h6
  split at h6
  · rename_i e
    simp only [Bool.and_eq_true, decide_eq_true_eq] at h6
    obtain ⟨⟨⟨⟨k1, k2⟩, k3⟩, k4⟩, k5⟩ := h6
    have p := eqBag_perm k5
    have hm : ∀ r ∈ s.runs.flatten ++ s.outp ++ s.heap ++ s.defd, vRow r = true := fun r hr => hin r (List.mem_of_mem_take (p.mem_iff.1 hr))
    have hl := p.length_eq
    simp only [List.length_append, List.length_take] at hl
    refine ⟨⟨vRows_of (fun r hr => hm r (by simp [hr])) (by omega) h1, vRows_of (fun r hr => hm r (by simp [hr])) (by omega) h1, vRows_of (fun r hr => hm r (by simp [hr])) (by omega) h1⟩, by omega, by omega, by omega, by omega, h4, by omega⟩
  · rename_i e
    simp only [Bool.and_eq_true, decide_eq_true_eq] at h6
    obtain ⟨⟨⟨⟨k1, k2⟩, k3⟩, k4⟩, k5⟩ := h6
    have e1 : s.heap = [] := by simpa using k2
    have e2 : s.defd = [] := by simpa using k3
    have p := eqBag_perm k4
    have hl := p.length_eq
    have hl0 : s.runs.length ≤ 24 := by omega
    have hm : ∀ r ∈ s.runs.flatten, vRow r = true := fun r hr => hin r (p.mem_iff.1 hr)
    have v0 : vRows ([] : List Row) = true := rfl
    rw [e1, e2]
    split at k5
    · rename_i e3
      split at k5
      · rename_i a b l hr
        simp only [Bool.and_eq_true, decide_eq_true_eq, inB_iff] at k5
        obtain ⟨⟨⟨q1, q2⟩, q3⟩, q4⟩ := k5
        rw [hr] at hm hl
        simp only [List.flatten_cons, List.length_append] at hl
        have q5 : s.outp.length ≤ s.input.length := by
          rw [q3, mergeS_len, List.length_take, List.length_take]
          omega
        refine ⟨⟨v0, v0, vRows_of (fun r hr' => ?_) q5 h1⟩, by omega, by omega, by omega, by omega, h4, by omega⟩
        rw [q3] at hr'
        rcases mergeS_mem hr' with h' | h'
        · exact hm r (by simp [List.mem_of_mem_take h'])
        · exact hm r (by simp [List.mem_of_mem_take h'])
      · cases k5
    · split at k5
      · simp only [Bool.and_eq_true, decide_eq_true_eq, inB_iff] at k5
        obtain ⟨⟨⟨q1, q2⟩, q3⟩, q4⟩ := k5
        have q4 : s.outp = [] := by simpa using q4
        rw [q4]
        exact ⟨⟨v0, v0, v0⟩, by omega, by omega, by omega, by omega, h4, by omega⟩
      · split at k5
        · simp only [Bool.and_eq_true, decide_eq_true_eq] at k5
          obtain ⟨⟨⟨q1, q2⟩, q3⟩, q4⟩ := k5
          have q4 : s.outp = [] := by simpa using q4
          rw [q4]
          exact ⟨⟨v0, v0, v0⟩, by omega, by omega, by omega, by omega, h4, by omega⟩
        · cases k5
def fS (s : Srt) : Str := if vSorter s then jn [47] [fRs s.input, fI s.pos, fRs s.heap, fRs s.defd, fRs s.outp, fRuns s.runs, fI s.lp, fI s.rp, fI s.phase, fI s.wr] else []
def domF (s : Srt) : Bool := domS s && mid s.runs.length && idom s.wr
def E_s_FormatSorter (fuel : Nat) : Env := ⟨tys, [(25, callFn F_s_IsValidSorter), (48, callFn F_s_FormatRows), (102, callFn F_s_FormatInt), (103, callFn F_s_FormatRuns)], [], fuel, 54, 0⟩
theorem top_s_FormatSorter (fuel : Nat) (p0_0 : List Row) (p0_1 : Int) (p0_2 : List Row) (p0_3 : List Row) (p0_4 : List Row) (p0_5 : List (List Row)) (p0_6 : Int) (p0_7 : Int) (p0_8 : Int) (p0_9 : Int) : runF (E_s_FormatSorter fuel) Try.f47 [.sl .row p0_0, .i .i64 p0_1, .sl .row p0_2, .sl .row p0_3, .sl .row p0_4, .sl .run p0_5, .i .i64 p0_6, .i .i64 p0_7, .i .i64 p0_8, .i .i64 p0_9] =
 cond (domS ⟨p0_0, p0_1, p0_2, p0_3, p0_4, p0_5, p0_6, p0_7, p0_8, p0_9⟩) (cond (!(vSorter ⟨p0_0, p0_1, p0_2, p0_3, p0_4, p0_5, p0_6, p0_7, p0_8, p0_9⟩))
 (some [(true, .s [])])
 (cond (lil p0_0.length) (cond (lim ((fRs p0_0).length + [47].length)) (cond (idom p0_1) (cond (lim (((fRs p0_0) ++ [47]).length + (fI p0_1).length)) (cond (lim ((((fRs p0_0) ++ [47]) ++ (fI p0_1)).length + [47].length)) (cond (lil p0_2.length) (cond (lim (((((fRs p0_0) ++ [47]) ++ (fI p0_1)) ++ [47]).length + (fRs p0_2).length)) (cond (lim ((((((fRs p0_0) ++ [47]) ++ (fI p0_1)) ++ [47]) ++ (fRs p0_2)).length + [47].length)) (cond (lil p0_3.length) (cond (lim (((((((fRs p0_0) ++ [47]) ++ (fI p0_1)) ++ [47]) ++ (fRs p0_2)) ++ [47]).length + (fRs p0_3).length)) (cond (lim ((((((((fRs p0_0) ++ [47]) ++ (fI p0_1)) ++ [47]) ++ (fRs p0_2)) ++ [47]) ++ (fRs p0_3)).length + [47].length)) (cond (lil p0_4.length) (cond (lim (((((((((fRs p0_0) ++ [47]) ++ (fI p0_1)) ++ [47]) ++ (fRs p0_2)) ++ [47]) ++ (fRs p0_3)) ++ [47]).length + (fRs p0_4).length)) (cond (lim ((((((((((fRs p0_0) ++ [47]) ++ (fI p0_1)) ++ [47]) ++ (fRs p0_2)) ++ [47]) ++ (fRs p0_3)) ++ [47]) ++ (fRs p0_4)).length + [47].length)) (cond (mid p0_5.length && lil p0_5.flatten.length) (cond (lim (((((((((((fRs p0_0) ++ [47]) ++ (fI p0_1)) ++ [47]) ++ (fRs p0_2)) ++ [47]) ++ (fRs p0_3)) ++ [47]) ++ (fRs p0_4)) ++ [47]).length + (fRuns p0_5).length)) (cond (lim ((((((((((((fRs p0_0) ++ [47]) ++ (fI p0_1)) ++ [47]) ++ (fRs p0_2)) ++ [47]) ++ (fRs p0_3)) ++ [47]) ++ (fRs p0_4)) ++ [47]) ++ (fRuns p0_5)).length + [47].length)) (cond (idom p0_6) (cond (lim (((((((((((((fRs p0_0) ++ [47]) ++ (fI p0_1)) ++ [47]) ++ (fRs p0_2)) ++ [47]) ++ (fRs p0_3)) ++ [47]) ++ (fRs p0_4)) ++ [47]) ++ (fRuns p0_5)) ++ [47]).length + (fI p0_6).length)) (cond (lim ((((((((((((((fRs p0_0) ++ [47]) ++ (fI p0_1)) ++ [47]) ++ (fRs p0_2)) ++ [47]) ++ (fRs p0_3)) ++ [47]) ++ (fRs p0_4)) ++ [47]) ++ (fRuns p0_5)) ++ [47]) ++ (fI p0_6)).length + [47].length)) (cond (idom p0_7) (cond (lim (((((((((((((((fRs p0_0) ++ [47]) ++ (fI p0_1)) ++ [47]) ++ (fRs p0_2)) ++ [47]) ++ (fRs p0_3)) ++ [47]) ++ (fRs p0_4)) ++ [47]) ++ (fRuns p0_5)) ++ [47]) ++ (fI p0_6)) ++ [47]).length + (fI p0_7).length)) (cond (lim ((((((((((((((((fRs p0_0) ++ [47]) ++ (fI p0_1)) ++ [47]) ++ (fRs p0_2)) ++ [47]) ++ (fRs p0_3)) ++ [47]) ++ (fRs p0_4)) ++ [47]) ++ (fRuns p0_5)) ++ [47]) ++ (fI p0_6)) ++ [47]) ++ (fI p0_7)).length + [47].length)) (cond (idom p0_8) (cond (lim (((((((((((((((((fRs p0_0) ++ [47]) ++ (fI p0_1)) ++ [47]) ++ (fRs p0_2)) ++ [47]) ++ (fRs p0_3)) ++ [47]) ++ (fRs p0_4)) ++ [47]) ++ (fRuns p0_5)) ++ [47]) ++ (fI p0_6)) ++ [47]) ++ (fI p0_7)) ++ [47]).length + (fI p0_8).length)) (cond (lim ((((((((((((((((((fRs p0_0) ++ [47]) ++ (fI p0_1)) ++ [47]) ++ (fRs p0_2)) ++ [47]) ++ (fRs p0_3)) ++ [47]) ++ (fRs p0_4)) ++ [47]) ++ (fRuns p0_5)) ++ [47]) ++ (fI p0_6)) ++ [47]) ++ (fI p0_7)) ++ [47]) ++ (fI p0_8)).length + [47].length)) (cond (idom p0_9) (cond (lim (((((((((((((((((((fRs p0_0) ++ [47]) ++ (fI p0_1)) ++ [47]) ++ (fRs p0_2)) ++ [47]) ++ (fRs p0_3)) ++ [47]) ++ (fRs p0_4)) ++ [47]) ++ (fRuns p0_5)) ++ [47]) ++ (fI p0_6)) ++ [47]) ++ (fI p0_7)) ++ [47]) ++ (fI p0_8)) ++ [47]).length + (fI p0_9).length)) (some [(true, .s (((((((((((((((((((fRs p0_0) ++ [47]) ++ (fI p0_1)) ++ [47]) ++ (fRs p0_2)) ++ [47]) ++ (fRs p0_3)) ++ [47]) ++ (fRs p0_4)) ++ [47]) ++ (fRuns p0_5)) ++ [47]) ++ (fI p0_6)) ++ [47]) ++ (fI p0_7)) ++ [47]) ++ (fI p0_8)) ++ [47]) ++ (fI p0_9)))]) none) none) none) none) none) none) none) none) none) none) none) none) none) none) none) none) none) none) none) none) none) none) none) none) none) none) none) none)) none := by kernel_rfl
theorem run_s_FormatSorter (q0 : List Row) (q1 : Int) (q2 q3 q4 : List Row) (q5 : List (List Row)) (q6 q7 q8 q9 : Int) (h : domF ⟨q0, q1, q2, q3, q4, q5, q6, q7, q8, q9⟩ = true) : runF (E_s_FormatSorter BIG) Try.f47 [.sl .row q0, .i .i64 q1, .sl .row q2, .sl .row q3, .sl .row q4, .sl .run q5, .i .i64 q6, .i .i64 q7, .i .i64 q8, .i .i64 q9] = some [(true, .s (fS ⟨q0, q1, q2, q3, q4, q5, q6, q7, q8, q9⟩))] := by
  obtain ⟨h1, h3⟩ := (Bool.and_eq_true _ _).mp h
  obtain ⟨h1, h2⟩ := (Bool.and_eq_true _ _).mp h1
  rw [top_s_FormatSorter, cond_true' h1]
  cases hv : vSorter ⟨q0, q1, q2, q3, q4, q5, q6, q7, q8, q9⟩ with
  | false => 
    simp only [Bool.not_false, cond_true]
    refine someS ?_
    simp [fS, hv]
  | true =>
    obtain ⟨⟨v1, v2, v3⟩, b1, b2, b3, b4, b5, b6⟩ := vS_rows hv
    simp only at v1 v2 v3 b1 b2 b3 b4 b5 b6 h2 h3
    have hd := (domS_iff.1 h1).1
    obtain ⟨l1, l2, l3, l4, l5, l6⟩ := lilS_iff.1 hd
    simp only at l1 l2 l3 l4 l5 l6
    have i1 := idom_of b1 (by omega)
    have i2 := idom_of b2 (by omega)
    have i3 := idom_of b3 (by omega)
    have i4 : idom q8 = true := idom_iff.2 (by omega)
    have m1 := fRs_len q0
    have m2 := fRs_len q2
    have m3 := fRs_len q3
    have m4 := fRs_len q4
    have m5 := fRuns_len q5
    have m6 := fI_len i1
    have m7 := fI_len i2
    have m8 := fI_len i3
    have m9 := fI_len i4
    have ma := fI_len h3
    simp only [lil_iff.2 l1, lil_iff.2 l2, lil_iff.2 l3, lil_iff.2 l4, lil_iff.2 l6, h2, h3, i1, i2, i3, i4, Bool.not_true, cond_false, cond_true, Bool.and_self, List.length_append, List.length_cons, List.length_nil]
    iterate 18 rw [cond_true' (lim_ok (by omega))]
    refine someS ?_
    simp [fS, hv, jn, jl]
def F_s_FormatSorter : Ai.Fn := ⟨[(true, [.sl .row, .sc, .sl .row, .sl .row, .sl .row, .sl .run, .sc, .sc, .sc, .sc])], [(false, 1)], false, fun ds => match ds with | [.sl .row p0_0, .i .i64 p0_1, .sl .row p0_2, .sl .row p0_3, .sl .row p0_4, .sl .run p0_5, .i .i64 p0_6, .i .i64 p0_7, .i .i64 p0_8, .i .i64 p0_9] => domF ⟨p0_0, p0_1, p0_2, p0_3, p0_4, p0_5, p0_6, p0_7, p0_8, p0_9⟩ | _ => false, fun ds => match ds with | [.sl .row p0_0, .i .i64 p0_1, .sl .row p0_2, .sl .row p0_3, .sl .row p0_4, .sl .run p0_5, .i .i64 p0_6, .i .i64 p0_7, .i .i64 p0_8, .i .i64 p0_9] => some [(true, .s (fS ⟨p0_0, p0_1, p0_2, p0_3, p0_4, p0_5, p0_6, p0_7, p0_8, p0_9⟩))] | _ => none⟩
theorem fg_s_FormatSorter : Try.prog.funcs[47]? = some Try.f47 := by kernel_rfl
theorem c_s_FormatSorter : Ctr Try.prog 47 F_s_FormatSorter := by
  refine ctr_of_run (code := Try.f47.body.getD .skip) mixed fg_s_FormatSorter (by kernel_rfl) (Nat.le_of_ble_eq_true (by kernel_rfl)) (Nat.le_of_ble_eq_true (by kernel_rfl)) fun ds out hd hr => ?_
  dsimp only [F_s_FormatSorter] at hd hr
  split at hd
  · simp only [Option.some.injEq] at hr
    subst hr
    exact ⟨E_s_FormatSorter BIG, tys_ok tysB_ok, FnsL.cons (fn_ok c_s_IsValidSorter) fg_s_IsValidSorter rfl rfl (FnsL.cons (fn_ok c_s_FormatRows) fg_s_FormatRows rfl rfl (FnsL.cons (fn_ok c_s_FormatInt) fg_s_FormatInt rfl rfl (FnsL.cons (fn_ok c_s_FormatRuns) fg_s_FormatRuns rfl rfl (FnsL.nil)))), rfl, by kernel_rfl, by kernel_rfl, run_s_FormatSorter _ _ _ _ _ _ _ _ _ _ hd⟩
  · cases hd
def E_i_FormatSorter (fuel : Nat) : Env := ⟨tys, [(32, callFn F_i_IsValidSorter), (50, callFn F_i_FormatRows), (105, callFn F_i_joined), (106, callFn F_i_FormatInt), (107, callFn F_i_rowTexts), (108, callFn F_i_FormatRuns)], [], fuel, 40, 0⟩
theorem top_i_FormatSorter (fuel : Nat) (p0_0 : List Row) (p0_1 : Int) (p0_2 : List Row) (p0_3 : List Row) (p0_4 : List Row) (p0_5 : List (List Row)) (p0_6 : Int) (p0_7 : Int) (p0_8 : Int) (p0_9 : Int) : runF (E_i_FormatSorter fuel) Try.f49 [.sl .row p0_0, .i .i64 p0_1, .sl .row p0_2, .sl .row p0_3, .sl .row p0_4, .sl .run p0_5, .i .i64 p0_6, .i .i64 p0_7, .i .i64 p0_8, .i .i64 p0_9] =
 cond (domS ⟨p0_0, p0_1, p0_2, p0_3, p0_4, p0_5, p0_6, p0_7, p0_8, p0_9⟩) (cond (!(vSorter ⟨p0_0, p0_1, p0_2, p0_3, p0_4, p0_5, p0_6, p0_7, p0_8, p0_9⟩))
 (some [(true, .s [])])
 (cond (lil p0_0.length) (cond (idom p0_1) (cond (mid p0_2.length) (cond (mid p0_3.length) (cond (mid p0_4.length) (cond (mid p0_5.length && lil p0_5.flatten.length) (cond (idom p0_6) (cond (idom p0_7) (cond (idom p0_8) (cond (idom p0_9) (cond (lil ([fRs p0_0, fI p0_1, jn [32] (p0_2.map fR), jn [32] (p0_3.map fR), jn [32] (p0_4.map fR), fRuns p0_5, fI p0_6, fI p0_7, fI p0_8, fI p0_9] : List Str).length && lil (jsz [47] ([fRs p0_0, fI p0_1, jn [32] (p0_2.map fR), jn [32] (p0_3.map fR), jn [32] (p0_4.map fR), fRuns p0_5, fI p0_6, fI p0_7, fI p0_8, fI p0_9] : List Str))) (some [(true, .s (jn [47] ([fRs p0_0, fI p0_1, jn [32] (p0_2.map fR), jn [32] (p0_3.map fR), jn [32] (p0_4.map fR), fRuns p0_5, fI p0_6, fI p0_7, fI p0_8, fI p0_9] : List Str)))]) none) none) none) none) none) none) none) none) none) none) none)) none := by kernel_rfl
theorem run_i_FormatSorter (q0 : List Row) (q1 : Int) (q2 q3 q4 : List Row) (q5 : List (List Row)) (q6 q7 q8 q9 : Int) (h : domF ⟨q0, q1, q2, q3, q4, q5, q6, q7, q8, q9⟩ = true) : runF (E_i_FormatSorter BIG) Try.f49 [.sl .row q0, .i .i64 q1, .sl .row q2, .sl .row q3, .sl .row q4, .sl .run q5, .i .i64 q6, .i .i64 q7, .i .i64 q8, .i .i64 q9] = some [(true, .s (fS ⟨q0, q1, q2, q3, q4, q5, q6, q7, q8, q9⟩))] := by
  obtain ⟨h1, h3⟩ := (Bool.and_eq_true _ _).mp h
  obtain ⟨h1, h2⟩ := (Bool.and_eq_true _ _).mp h1
  rw [top_i_FormatSorter, cond_true' h1]
  cases hv : vSorter ⟨q0, q1, q2, q3, q4, q5, q6, q7, q8, q9⟩ with
  | false =>
    simp only [Bool.not_false, cond_true]
    refine someS ?_
    simp [fS, hv]
  | true =>
    obtain ⟨⟨v1, v2, v3⟩, b1, b2, b3, b4, b5, b6⟩ := vS_rows hv
    simp only at v1 v2 v3 b1 b2 b3 b4 b5 b6 h2 h3
    have hd := (domS_iff.1 h1).1
    obtain ⟨l1, l2, l3, l4, l5, l6⟩ := lilS_iff.1 hd
    simp only at l1 l2 l3 l4 l5 l6
    have i1 := idom_of b1 (by omega)
    have i2 := idom_of b2 (by omega)
    have i3 := idom_of b3 (by omega)
    have i4 : idom q8 = true := idom_iff.2 (by omega)
    have k2 := vRows_len v1
    have k3 := vRows_len v2
    have k4 := vRows_len v3
    have e2 : fRs q2 = jn [32] (q2.map fR) := by simp [fRs, v1]
    have e3 : fRs q3 = jn [32] (q3.map fR) := by simp [fRs, v2]
    have e4 : fRs q4 = jn [32] (q4.map fR) := by simp [fRs, v3]
    simp only [lil_iff.2 l1, mid_iff.2 (Nat.le_trans k2 (by omega) : q2.length ≤ 1048576), mid_iff.2 (Nat.le_trans k3 (by omega) : q3.length ≤ 1048576), mid_iff.2 (Nat.le_trans k4 (by omega) : q4.length ≤ 1048576), lil_iff.2 l6, h2, h3, i1, i2, i3, i4, Bool.not_true, cond_false, cond_true, Bool.and_self]
    rw [← e2, ← e3, ← e4]
    have m1 := fRs_len q0
    have m2 := fRs_len q2
    have m3 := fRs_len q3
    have m4 := fRs_len q4
    have m5 := fRuns_len q5
    have m6 := fI_len i1
    have m7 := fI_len i2
    have m8 := fI_len i3
    have m9 := fI_len i4
    have ma := fI_len h3
    rw [cond_true']
    · refine someS ?_
      simp [fS, hv]
    · simp only [Bool.and_eq_true, lil_iff, jsz, List.map_cons, List.map_nil, List.sum_cons, List.sum_nil, List.length_cons, List.length_nil]
      omega
def F_i_FormatSorter : Ai.Fn := ⟨[(true, [.sl .row, .sc, .sl .row, .sl .row, .sl .row, .sl .run, .sc, .sc, .sc, .sc])], [(false, 1)], false, fun ds => match ds with | [.sl .row p0_0, .i .i64 p0_1, .sl .row p0_2, .sl .row p0_3, .sl .row p0_4, .sl .run p0_5, .i .i64 p0_6, .i .i64 p0_7, .i .i64 p0_8, .i .i64 p0_9] => domF ⟨p0_0, p0_1, p0_2, p0_3, p0_4, p0_5, p0_6, p0_7, p0_8, p0_9⟩ | _ => false, fun ds => match ds with | [.sl .row p0_0, .i .i64 p0_1, .sl .row p0_2, .sl .row p0_3, .sl .row p0_4, .sl .run p0_5, .i .i64 p0_6, .i .i64 p0_7, .i .i64 p0_8, .i .i64 p0_9] => some [(true, .s (fS ⟨p0_0, p0_1, p0_2, p0_3, p0_4, p0_5, p0_6, p0_7, p0_8, p0_9⟩))] | _ => none⟩
theorem fg_i_FormatSorter : Try.prog.funcs[49]? = some Try.f49 := by kernel_rfl
theorem c_i_FormatSorter : Ctr Try.prog 49 F_i_FormatSorter := by
  refine ctr_of_run (code := Try.f49.body.getD .skip) mixed fg_i_FormatSorter (by kernel_rfl) (Nat.le_of_ble_eq_true (by kernel_rfl)) (Nat.le_of_ble_eq_true (by kernel_rfl)) fun ds out hd hr => ?_
  dsimp only [F_i_FormatSorter] at hd hr
  split at hd
  · simp only [Option.some.injEq] at hr
    subst hr
    exact ⟨E_i_FormatSorter BIG, tys_ok tysB_ok, FnsL.cons (fn_ok c_i_IsValidSorter) fg_i_IsValidSorter rfl rfl (FnsL.cons (fn_ok c_i_FormatRows) fg_i_FormatRows rfl rfl (FnsL.cons (fn_ok c_i_joined) fg_i_joined rfl rfl (FnsL.cons (fn_ok c_i_FormatInt) fg_i_FormatInt rfl rfl (FnsL.cons (fn_ok c_i_rowTexts) fg_i_rowTexts rfl rfl (FnsL.cons (fn_ok c_i_FormatRuns) fg_i_FormatRuns rfl rfl (FnsL.nil)))))), rfl, by kernel_rfl, by kernel_rfl, run_i_FormatSorter _ _ _ _ _ _ _ _ _ _ hd⟩
  · cases hd
theorem fS_len {s : Srt} (h : domF s = true) : (fS s).length ≤ 100000 := by
  obtain ⟨h1, h3⟩ := (Bool.and_eq_true _ _).mp h
  unfold fS
  split
  · rename_i hv
    obtain ⟨-, b1, b2, b3, b4, b5, b6⟩ := vS_rows hv
    have i4 : idom s.phase = true := idom_iff.2 (by omega)
    have m1 := fRs_len s.input
    have m2 := fRs_len s.heap
    have m3 := fRs_len s.defd
    have m4 := fRs_len s.outp
    have m5 := fRuns_len s.runs
    have m6 := fI_len (idom_of b1 (by omega))
    have m7 := fI_len (idom_of b2 (by omega))
    have m8 := fI_len (idom_of b3 (by omega))
    have m9 := fI_len i4
    have ma := fI_len h3
    refine Nat.le_trans (jn_len _ _) ?_
    simp only [jsz, List.map_cons, List.map_nil, List.sum_cons, List.sum_nil, List.length_cons, List.length_nil]
    omega
  · simp
def fC (s : Srt) (e : List Row) : Str := if vCkp s e then (fS s ++ [33]) ++ fRs e else []
def E_s_FormatCheckpoint (fuel : Nat) : Env := ⟨tys, [(8, callFn F_s_IsValidCheckpoint), (47, callFn F_s_FormatSorter), (48, callFn F_s_FormatRows)], [], fuel, 14, 0⟩
theorem top_s_FormatCheckpoint (fuel : Nat) (p0_0 : List Row) (p0_1 : Int) (p0_2 : List Row) (p0_3 : List Row) (p0_4 : List Row) (p0_5 : List (List Row)) (p0_6 : Int) (p0_7 : Int) (p0_8 : Int) (p0_9 : Int) (p0_10 : List Row) : runF (E_s_FormatCheckpoint fuel) Try.f17 [.sl .row p0_0, .i .i64 p0_1, .sl .row p0_2, .sl .row p0_3, .sl .row p0_4, .sl .run p0_5, .i .i64 p0_6, .i .i64 p0_7, .i .i64 p0_8, .i .i64 p0_9, .sl .row p0_10] =
 cond (domS ⟨p0_0, p0_1, p0_2, p0_3, p0_4, p0_5, p0_6, p0_7, p0_8, p0_9⟩ && lil p0_10.length) (cond (!(vCkp ⟨p0_0, p0_1, p0_2, p0_3, p0_4, p0_5, p0_6, p0_7, p0_8, p0_9⟩ p0_10))
 (some [(true, .s [])])
 (cond (domF ⟨p0_0, p0_1, p0_2, p0_3, p0_4, p0_5, p0_6, p0_7, p0_8, p0_9⟩) (cond (lim ((fS ⟨p0_0, p0_1, p0_2, p0_3, p0_4, p0_5, p0_6, p0_7, p0_8, p0_9⟩).length + [33].length)) (cond (lil p0_10.length) (cond (lim (((fS ⟨p0_0, p0_1, p0_2, p0_3, p0_4, p0_5, p0_6, p0_7, p0_8, p0_9⟩) ++ [33]).length + (fRs p0_10).length)) (some [(true, .s (((fS ⟨p0_0, p0_1, p0_2, p0_3, p0_4, p0_5, p0_6, p0_7, p0_8, p0_9⟩) ++ [33]) ++ (fRs p0_10)))]) none) none) none) none)) none := by kernel_rfl
theorem run_s_FormatCheckpoint (q0 : List Row) (q1 : Int) (q2 q3 q4 : List Row) (q5 : List (List Row)) (q6 q7 q8 q9 : Int) (e : List Row) (h : (domF ⟨q0, q1, q2, q3, q4, q5, q6, q7, q8, q9⟩ && lil e.length) = true) : runF (E_s_FormatCheckpoint BIG) Try.f17 [.sl .row q0, .i .i64 q1, .sl .row q2, .sl .row q3, .sl .row q4, .sl .run q5, .i .i64 q6, .i .i64 q7, .i .i64 q8, .i .i64 q9, .sl .row e] = some [(true, .s (fC ⟨q0, q1, q2, q3, q4, q5, q6, q7, q8, q9⟩ e))] := by
  obtain ⟨h1, h2⟩ := (Bool.and_eq_true _ _).mp h
  have h3 : domS ⟨q0, q1, q2, q3, q4, q5, q6, q7, q8, q9⟩ = true := by
    obtain ⟨h3, -⟩ := (Bool.and_eq_true _ _).mp h1
    exact ((Bool.and_eq_true _ _).mp h3).1
  have l1 := fS_len h1
  have l2 := fRs_len e
  rw [top_s_FormatCheckpoint]
  simp only [h1, h2, h3, Bool.and_self, cond_true]
  cases hv : vCkp ⟨q0, q1, q2, q3, q4, q5, q6, q7, q8, q9⟩ e with
  | false =>
    simp only [Bool.not_false, cond_true]
    refine someS ?_
    simp [fC, hv]
  | true =>
    simp only [Bool.not_true, cond_false, List.length_append, List.length_cons, List.length_nil]
    rw [cond_true' (lim_ok (by omega)), cond_true' (lim_ok (by omega))]
    refine someS ?_
    simp [fC, hv]
def F_s_FormatCheckpoint : Ai.Fn := ⟨[(true, [.sl .row, .sc, .sl .row, .sl .row, .sl .row, .sl .run, .sc, .sc, .sc, .sc, .sl .row])], [(false, 1)], false, fun ds => match ds with | [.sl .row p0_0, .i .i64 p0_1, .sl .row p0_2, .sl .row p0_3, .sl .row p0_4, .sl .run p0_5, .i .i64 p0_6, .i .i64 p0_7, .i .i64 p0_8, .i .i64 p0_9, .sl .row p0_10] => domF ⟨p0_0, p0_1, p0_2, p0_3, p0_4, p0_5, p0_6, p0_7, p0_8, p0_9⟩ && lil p0_10.length | _ => false, fun ds => match ds with | [.sl .row p0_0, .i .i64 p0_1, .sl .row p0_2, .sl .row p0_3, .sl .row p0_4, .sl .run p0_5, .i .i64 p0_6, .i .i64 p0_7, .i .i64 p0_8, .i .i64 p0_9, .sl .row p0_10] => some [(true, .s (fC ⟨p0_0, p0_1, p0_2, p0_3, p0_4, p0_5, p0_6, p0_7, p0_8, p0_9⟩ p0_10))] | _ => none⟩
theorem fg_s_FormatCheckpoint : Try.prog.funcs[17]? = some Try.f17 := by kernel_rfl
theorem c_s_FormatCheckpoint : Ctr Try.prog 17 F_s_FormatCheckpoint := by
  refine ctr_of_run (code := Try.f17.body.getD .skip) mixed fg_s_FormatCheckpoint (by kernel_rfl) (Nat.le_of_ble_eq_true (by kernel_rfl)) (Nat.le_of_ble_eq_true (by kernel_rfl)) fun ds out hd hr => ?_
  dsimp only [F_s_FormatCheckpoint] at hd hr
  split at hd
  · simp only [Option.some.injEq] at hr
    subst hr
    exact ⟨E_s_FormatCheckpoint BIG, tys_ok tysB_ok, FnsL.cons (fn_ok c_s_IsValidCheckpoint) fg_s_IsValidCheckpoint rfl rfl (FnsL.cons (fn_ok c_s_FormatSorter) fg_s_FormatSorter rfl rfl (FnsL.cons (fn_ok c_s_FormatRows) fg_s_FormatRows rfl rfl (FnsL.nil))), rfl, by kernel_rfl, by kernel_rfl, run_s_FormatCheckpoint _ _ _ _ _ _ _ _ _ _ _ hd⟩
  · cases hd
def E_i_FormatCheckpoint (fuel : Nat) : Env := ⟨tys, [(10, callFn F_i_IsValidCheckpoint), (49, callFn F_i_FormatSorter), (50, callFn F_i_FormatRows)], [], fuel, 14, 0⟩
theorem top_i_FormatCheckpoint (fuel : Nat) (p0_0 : List Row) (p0_1 : Int) (p0_2 : List Row) (p0_3 : List Row) (p0_4 : List Row) (p0_5 : List (List Row)) (p0_6 : Int) (p0_7 : Int) (p0_8 : Int) (p0_9 : Int) (p0_10 : List Row) : runF (E_i_FormatCheckpoint fuel) Try.f18 [.sl .row p0_0, .i .i64 p0_1, .sl .row p0_2, .sl .row p0_3, .sl .row p0_4, .sl .run p0_5, .i .i64 p0_6, .i .i64 p0_7, .i .i64 p0_8, .i .i64 p0_9, .sl .row p0_10] =
 cond (domS ⟨p0_0, p0_1, p0_2, p0_3, p0_4, p0_5, p0_6, p0_7, p0_8, p0_9⟩ && lil p0_10.length) (cond (!(vCkp ⟨p0_0, p0_1, p0_2, p0_3, p0_4, p0_5, p0_6, p0_7, p0_8, p0_9⟩ p0_10))
 (some [(true, .s [])])
 (cond (domF ⟨p0_0, p0_1, p0_2, p0_3, p0_4, p0_5, p0_6, p0_7, p0_8, p0_9⟩) (cond (lim ((fS ⟨p0_0, p0_1, p0_2, p0_3, p0_4, p0_5, p0_6, p0_7, p0_8, p0_9⟩).length + [33].length)) (cond (lil p0_10.length) (cond (lim (((fS ⟨p0_0, p0_1, p0_2, p0_3, p0_4, p0_5, p0_6, p0_7, p0_8, p0_9⟩) ++ [33]).length + (fRs p0_10).length)) (some [(true, .s (((fS ⟨p0_0, p0_1, p0_2, p0_3, p0_4, p0_5, p0_6, p0_7, p0_8, p0_9⟩) ++ [33]) ++ (fRs p0_10)))]) none) none) none) none)) none := by kernel_rfl
theorem run_i_FormatCheckpoint (q0 : List Row) (q1 : Int) (q2 q3 q4 : List Row) (q5 : List (List Row)) (q6 q7 q8 q9 : Int) (e : List Row) (h : (domF ⟨q0, q1, q2, q3, q4, q5, q6, q7, q8, q9⟩ && lil e.length) = true) : runF (E_i_FormatCheckpoint BIG) Try.f18 [.sl .row q0, .i .i64 q1, .sl .row q2, .sl .row q3, .sl .row q4, .sl .run q5, .i .i64 q6, .i .i64 q7, .i .i64 q8, .i .i64 q9, .sl .row e] = some [(true, .s (fC ⟨q0, q1, q2, q3, q4, q5, q6, q7, q8, q9⟩ e))] := by
  obtain ⟨h1, h2⟩ := (Bool.and_eq_true _ _).mp h
  have h3 : domS ⟨q0, q1, q2, q3, q4, q5, q6, q7, q8, q9⟩ = true := by
    obtain ⟨h3, -⟩ := (Bool.and_eq_true _ _).mp h1
    exact ((Bool.and_eq_true _ _).mp h3).1
  have l1 := fS_len h1
  have l2 := fRs_len e
  rw [top_i_FormatCheckpoint]
  simp only [h1, h2, h3, Bool.and_self, cond_true]
  cases hv : vCkp ⟨q0, q1, q2, q3, q4, q5, q6, q7, q8, q9⟩ e with
  | false =>
    simp only [Bool.not_false, cond_true]
    refine someS ?_
    simp [fC, hv]
  | true =>
    simp only [Bool.not_true, cond_false, List.length_append, List.length_cons, List.length_nil]
    rw [cond_true' (lim_ok (by omega)), cond_true' (lim_ok (by omega))]
    refine someS ?_
    simp [fC, hv]
def F_i_FormatCheckpoint : Ai.Fn := ⟨[(true, [.sl .row, .sc, .sl .row, .sl .row, .sl .row, .sl .run, .sc, .sc, .sc, .sc, .sl .row])], [(false, 1)], false, fun ds => match ds with | [.sl .row p0_0, .i .i64 p0_1, .sl .row p0_2, .sl .row p0_3, .sl .row p0_4, .sl .run p0_5, .i .i64 p0_6, .i .i64 p0_7, .i .i64 p0_8, .i .i64 p0_9, .sl .row p0_10] => domF ⟨p0_0, p0_1, p0_2, p0_3, p0_4, p0_5, p0_6, p0_7, p0_8, p0_9⟩ && lil p0_10.length | _ => false, fun ds => match ds with | [.sl .row p0_0, .i .i64 p0_1, .sl .row p0_2, .sl .row p0_3, .sl .row p0_4, .sl .run p0_5, .i .i64 p0_6, .i .i64 p0_7, .i .i64 p0_8, .i .i64 p0_9, .sl .row p0_10] => some [(true, .s (fC ⟨p0_0, p0_1, p0_2, p0_3, p0_4, p0_5, p0_6, p0_7, p0_8, p0_9⟩ p0_10))] | _ => none⟩
theorem fg_i_FormatCheckpoint : Try.prog.funcs[18]? = some Try.f18 := by kernel_rfl
theorem c_i_FormatCheckpoint : Ctr Try.prog 18 F_i_FormatCheckpoint := by
  refine ctr_of_run (code := Try.f18.body.getD .skip) mixed fg_i_FormatCheckpoint (by kernel_rfl) (Nat.le_of_ble_eq_true (by kernel_rfl)) (Nat.le_of_ble_eq_true (by kernel_rfl)) fun ds out hd hr => ?_
  dsimp only [F_i_FormatCheckpoint] at hd hr
  split at hd
  · simp only [Option.some.injEq] at hr
    subst hr
    exact ⟨E_i_FormatCheckpoint BIG, tys_ok tysB_ok, FnsL.cons (fn_ok c_i_IsValidCheckpoint) fg_i_IsValidCheckpoint rfl rfl (FnsL.cons (fn_ok c_i_FormatSorter) fg_i_FormatSorter rfl rfl (FnsL.cons (fn_ok c_i_FormatRows) fg_i_FormatRows rfl rfl (FnsL.nil))), rfl, by kernel_rfl, by kernel_rfl, run_i_FormatCheckpoint _ _ _ _ _ _ _ _ _ _ _ hd⟩
  · cases hd
end Go.Proofs.Ytfjdfbdiichhdaa
