/- The last step of each law's row: a call that leaves all old memory alone and answers true meets what the row asks. No condition. -/
import Derived.Test.YtcdeimmjhfimjaaRows
import Derived.WalkKit
import Derived.ProofKit
import Derived.OpenShut
import Derived.Below
import Derived.ChangeSame
namespace Go.Proofs.Ytcdeimmjhfimjaa
open Go.ChangeShapes Go.WideShapes Go.ChangeAt Go.RowKit

theorem own : ownKnob Try.prog.godebug = none := by kernel_rfl
theorem post_yes {H : Type} {enc : TypeId × Value → H} {f : Func} {s : ChangeSpec} {W W' : World} {args : Array Value} {ds : List (DataW H)} {places : List MemPlace}
    (hW : DataW.Whole enc Try.prog f.params.toList s.vars false W args.toList ds [] places) (hr : f.resultTypes = #[4]) (hs : s.vars = [])
    (hres : (s.fn H (ds ++ [])).results = [.lit (.bool true)]) (hvar : (s.fn H (ds ++ [])).vars = [])
    (hargs : ∀ sp : Nat → Bool, (∀ p ∈ places, sp p.block = true) → DataW.TrodAll enc Try.prog W' 0 sp true f.params.toList args.toList (s.fn H (ds ++ [])).args places)
    (hb : Below W.heap.size W W') : s.post enc Try.prog f false true false false W args (.bool true) W' := by
  have old : ∀ p ∈ places, p.block < W.heap.size := fun p hp => hW.lt p hp
  have R : ∀ (b : Nat) (sp : Nat → Bool) (hd : Bool), DataW.TrodAll enc Try.prog W' b sp hd f.resultTypes.toList ((Value.bool true).resultList f.resultTypes.size) (s.fn H (ds ++ [])).results [] := by
    intro b sp hd
    rw [hr, hres]
    exact trodAll_cons_mk (shut_bool Try.underlying4 _) trodAll_mk0
  have V : ∀ sp : Nat → Bool, DataW.TrodVars enc Try.prog W' sp s.vars (s.fn H (ds ++ [])).vars [] := by
    intro sp
    rw [hs, hvar]
    exact rfl
  refine ⟨ds, [], places, [], places, [], hW, R _ _ _, hargs (fun b => decide (b < W.heap.size)) (fun p hp => by simpa using old p hp), V _, World.keptBut_mono (fun p hp => ⟨hp, .inr (by simpa using hp)⟩) (hb.frame (· ∈ places)), fun _ => ?_⟩
  obtain ⟨_, _, _, _, _, hz, hn⟩ := hW
  refine ⟨ok_one hr rfl (okWide_bool_mk Try.underlying4 _), _, _, ([] ++ places) ++ [], ⟨[] ++ places, [], trodAll_append (hargs _ (fun _ _ => rfl)) (R _ _ _), V _, rfl, ?_, ?_⟩, ?_⟩
  · intro b off hp
    have hin : MemPlace.cell b off ∈ places := by simpa using hp
    rw [hb.frozen (old _ hin)]
    exact hz b off hin
  · intro ha
    exact absurd ha (by simp)
  · intro p hp _
    simpa using hp
end Go.Proofs.Ytcdeimmjhfimjaa
