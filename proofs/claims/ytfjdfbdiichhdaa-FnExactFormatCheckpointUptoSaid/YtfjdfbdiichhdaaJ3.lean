/-
  The join, for any statement that returns true and leaves the input as it was: from the contract of its function to what a call of it leaves. Conditions: the contract, the table of the parameters' types, the law on the deep values.
-/
import Derived.Test.YtfjdfbdiichhdaaK24
import Derived.Test.YtfjdfbdiichhdaaJ2
import Derived.Test.YtfjdfbdiichhdaaProg
import Derived.KernelRfl
namespace Go.Proofs.Ytfjdfbdiichhdaa
open Go Go.RowKit Go.ChangeShapes Go.WideShapes
set_option maxRecDepth 100000
namespace Ai

theorem laid0 : laidOutB Try.prog = true := by kernel_rfl
theorem und40 : Try.prog.underlying 4 = some .bool := by kernel_rfl
def okParB (P : Program) (t : TypeId) : Bool := P.readableRec t && Nat.blt t P.types.size

theorem calls_post {f : FuncId} {fn : Func} {F : Ai.Fn} {s : ChangeSpec} {fresh handsOn again : Bool} {pars : List (Bool × List RD)} {H : Type} {enc : TypeId × Value → H} {W : World} {base : Nat} {args : Array Value} {ds gs : List (DataW H)} {before : List MemPlace}
    (hc : Ctr Try.prog f F) (hres : F.res = [(false, 1)]) (hars : F.ars.map (fun a => (a.1, a.2.length)) = pars.map (fun p => (p.1, p.2.length)))
    (hpar : Each (fun p t => parB Try.prog t p = true) pars fn.params.toList) (hok : fn.params.toList.all (okParB Try.prog) = true) (hrt : fn.resultTypes = #[4]) (hv : s.vars = [])
    (hs : ds.length = pars.length → (s.fn H ds).results = [.lit (.bool true)] ∧ (s.fn H ds).args = ds ∧ (s.fn H ds).vars = [])
    (hrun : ∀ gs, Each IsPar pars gs → (∀ n, (gs.flatMap (·.2)).all (okN n) = true) → (∀ n, ((gs.flatMap (·.2)).map (bN n)).sum ≤ 1048576) → F.dom (gs.flatMap (·.2)) = true ∧ F.run (gs.flatMap (·.2)) = some [(true, .b true)])
    (hval : ∀ (j : Nat) (t : TypeId) (v : Value), fn.params[j]? = some t → args[j]? = some v → Value.okWide Try.prog W .any base t v)
    (hW : DataW.Whole enc Try.prog fn.params.toList s.vars false W args.toList ds gs before) (hb : Rows.uptoSmall H (ds ++ gs) = true) :
    Calls Try.prog f args W fun e W' => ∃ v, e = .returned v ∧ s.post enc Try.prog fn false fresh handsOn again W args v W' := by
  have hW' := hW
  obtain ⟨p, q, hA, hV, rfl, hfz, hnd⟩ := hW
  have hA : DataW.TrodAll enc Try.prog W 0 (fun _ => true) true fn.params.toList args.toList ds p := hA
  have hgs : gs = [] := by
    rw [hv] at hV
    cases gs with
    | nil => rfl
    | cons _ _ => exact hV.elim
  subst hgs
  rw [List.append_nil] at hb
  have hb : Rows.uptoBulkAll ds ≤ 1048576 := of_decide_eq_true hb
  have hlen : ∀ {ts : List TypeId} {vs : List Value} {ds : List (DataW H)} {ps : List MemPlace}, DataW.TrodAll enc Try.prog W 0 (fun _ => true) true ts vs ds ps → ds.length = ts.length := by
    intro ts
    induction ts with
    | nil => intro vs ds ps h; cases vs <;> cases ds <;> first | rfl | exact h.elim
    | cons t ts ih =>
      intro vs ds ps h
      cases vs with
      | nil => exact h.elim
      | cons v vs =>
      cases ds with
      | nil => exact h.elim
      | cons d ds =>
      obtain ⟨_, _, _, h2, _⟩ := h
      simp [ih h2]
  have hval' : ∀ (j : Nat) (t : TypeId) (v : Value), fn.params.toList[j]? = some t → args.toList[j]? = some v → ∃ base, Value.okWide Try.prog W .any base t v := fun j t v ht hv => by
    refine ⟨base, hval j t v ?_ ?_⟩
    · rw [← Array.getElem?_toList]; exact ht
    · rw [← Array.getElem?_toList]; exact hv
  obtain ⟨gs, a1, a2, a4, a3⟩ := read_all (S := fun b => b < W.heap.size) (fun _ h => h) hA hval' hpar
  obtain ⟨hd, hr⟩ := hrun gs a2 a4 fun n => Nat.le_trans (a3 n) hb
  have hsh : gs.map (fun g => (g.1, g.2.length)) = F.ars.map (fun a => (a.1, a.2.length)) := by
    rw [hars]
    clear hr hd a1 a3 a4 hars hpar hs hrun
    induction pars generalizing gs with
    | nil => cases gs with
      | nil => rfl
      | cons _ _ => exact a2.elim
    | cons pa pars ih => cases gs with
      | nil => exact a2.elim
      | cons g gs =>
        obtain ⟨⟨h1, h2⟩, h3⟩ := a2
        simp [h1, h2.length, ih gs h3]
  obtain ⟨h1, h2, h3⟩ := hs (by rw [hlen hA, hpar.length])
  have hcall := hc (fun b => b < W.heap.size) W args.toList gs [(true, .b true)] (fun _ h => h) a1 hsh hd hr
  rw [show args.toList.toArray = args by simp] at hcall
  refine hcall.mono fun e W' ⟨val, q', he, O⟩ => ?_
  subst he
  refine ⟨val, rfl, ?_⟩
  have hval : val = .bool true := by
    obtain ⟨vals, rfl, hv⟩ := O.res
    rw [hres] at hv
    match vals, hv with
    | [u], hv =>
      have hu : DR q'.S q'.lab q'.w none u (.b true) := hv.1.1
      cases hu
      rfl
    | [], hv => exact hv.elim
    | _ :: _ :: _, hv => exact hv.2.elim
  subst hval
  refine post_true laid0 (fun t ht => ?_) (tb := 4) hrt und40 hv ?_ ?_ ?_ hW' ⟨O.os, O.tape, O.output, O.size, O.old⟩
  · have := List.all_eq_true.1 hok t ht
    unfold okParB at this
    obtain ⟨k1, k2⟩ := (Bool.and_eq_true _ _).mp this
    exact ⟨k1, by simpa using k2⟩
  · rw [List.append_nil]; exact h1
  · rw [List.append_nil]; exact h2
  · rw [List.append_nil]; exact h3
end Ai
end Go.Proofs.Ytfjdfbdiichhdaa
