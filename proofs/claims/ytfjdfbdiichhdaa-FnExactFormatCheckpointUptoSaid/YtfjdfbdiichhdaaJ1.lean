/-
  The join: a law that returns true and leaves all that was there reads as it read. Conditions: the arguments' types can be read; the result is a bool.
-/
import Derived.Test.YtfjdfbdiichhdaaK24
import Derived.Carry
import Derived.JoinedCond
import Derived.ChangeSame
import Derived.ChangeShapes
import Derived.RowKit
namespace Go.Proofs.Ytfjdfbdiichhdaa
open Go Go.RowKit Go.ChangeShapes
namespace Ai

section
variable {H : Type} {enc : TypeId × Value → H} {P : Program} {W W' : World}
theorem trodAll_stay (hl : laidOutB P = true) {sp : Nat → Bool} (hb : Below W.heap.size W W') : ∀ {ts : List TypeId} {vs : List Value} {ds : List (DataW H)} {ps : List MemPlace},
    (∀ t ∈ ts, P.readableRec t = true ∧ t < P.types.size) → (∀ p ∈ ps, p.block < W.heap.size) → (∀ p ∈ ps, sp p.block = true) → DataW.TrodAll enc P W 0 (fun _ => true) true ts vs ds ps → DataW.TrodAll enc P W' 0 sp true ts vs ds ps
  | [], [], [], _, _, _, _, h => h
  | t :: ts, v :: vs, d :: ds, ps, hr, hp, hs, ⟨p, q, h1, h2, e⟩ => by
    subst e
    refine ⟨p, q, WideElems.Trod_stays hl (hr t (by simp)).1 (hr t (by simp)).2 h1 (fun x hx => hb.same (hp x (by simp [hx]))) (fun x hx => hs x (by simp [hx])), ?_, rfl⟩
    exact trodAll_stay hl hb (fun t ht => hr t (by simp [ht])) (fun x hx => hp x (by simp [hx])) (fun x hx => hs x (by simp [hx])) h2
  | [], _ :: _, _, _, _, _, _, h => h.elim
  | [], [], _ :: _, _, _, _, _, h => h.elim
  | _ :: _, [], _, _, _, _, _, h => h.elim
  | _ :: _, _ :: _, [], _, _, _, _, h => h.elim

theorem keptBut_below {may : MemPlace → Prop} (hb : Below W.heap.size W W') : W.keptBut W' may := by
  refine ⟨hb.os, hb.output, fun i hi => ?_⟩
  rw [hb.block i hi]
  cases W.heap[i]? with
  | none => rfl
  | some o => cases o with
    | cells c t f => exact ⟨rfl, rfl, rfl, fun _ _ => rfl⟩
    | map es k => exact .inr ⟨rfl, rfl⟩
    | _ => rfl

theorem post_true {f : Func} {s : ChangeSpec} {apart fresh handsOn again : Bool} {args : Array Value} {ds gs : List (DataW H)} {before : List MemPlace} {tb : TypeId} (hl : laidOutB P = true)
    (hps : ∀ t ∈ f.params.toList, P.readableRec t = true ∧ t < P.types.size) (hres : f.resultTypes = #[tb]) (hbool : P.underlying tb = some .bool) (hv : s.vars = []) (h1 : (s.fn H (ds ++ gs)).results = [.lit (.bool true)]) (h2 : (s.fn H (ds ++ gs)).args = ds) (h3 : (s.fn H (ds ++ gs)).vars = [])
    (hW : DataW.Whole enc P f.params.toList s.vars apart W args.toList ds gs before) (hb : Below W.heap.size W W') : s.post enc P f apart fresh handsOn again W args (.bool true) W' := by
  have hlt : ∀ p ∈ before, p.block < W.heap.size := fun p hp => hW.lt p hp
  have hW' := hW
  obtain ⟨p, q, hA, hV, rfl, hfz, hnd⟩ := hW
  rw [hv] at hV
  cases gs with
  | cons _ _ => exact hV.elim
  | nil =>
  have hq : q = [] := hV
  subst hq
  rw [List.append_nil] at hlt hfz hnd
  have hrt : f.resultTypes.toList = [tb] := by rw [hres]
  have hrl : (Value.bool true).resultList f.resultTypes.size = [.bool true] := by rw [hres]; rfl
  have args' : ∀ sp : Nat → Bool, (∀ x ∈ p, sp x.block = true) → DataW.TrodAll enc P W' 0 sp true f.params.toList args.toList ds p := fun sp hs => trodAll_stay hl hb hps hlt hs hA
  refine ⟨ds, [], p ++ [], [], p, [], hW', ?_, ?_, ?_, keptBut_below hb, fun _ => ⟨?_, [.lit (.bool true)] ++ ds, [], p, ⟨p, [], ?_, ?_, by simp, ?_, hnd⟩, fun x hx _ => by simpa using hx⟩⟩
  · rw [hrt, hrl, h1]; exact trodAll_mk1 (shut_bool hbool true)
  · rw [h2]; exact args' _ fun x hx => by simpa using hlt x hx
  · rw [hv, h3]; rfl
  · exact ok_one hres rfl (okWide_bool_mk hbool true)
  · rw [hrt, hrl]; exact ⟨[], p, shut_bool hbool true, args' _ fun _ _ => rfl, rfl⟩
  · rw [hv]; rfl
  · intro b off hp
    have h4 := hfz b off (by simpa using hp)
    have h5 : b < W.heap.size := hlt (.cell b off) (by simpa using hp)
    rw [← h4]
    simp only [World.frozen?, hb.block b h5]
end

end Ai
end Go.Proofs.Ytfjdfbdiichhdaa
