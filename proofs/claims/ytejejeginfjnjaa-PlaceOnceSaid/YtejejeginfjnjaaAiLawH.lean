/- The rows of laws, out of their contracts: each returns true for every input; the input stays. -/
import Derived.Test.YtejejeginfjnjaaRows
import Derived.Test.YtejejeginfjnjaaAiPlaceX
import Derived.WalkKit
import Derived.ProofKit
import Derived.OpenShut
import Derived.ShutString
import Derived.ChangeOld
import Derived.Below
import Derived.SizedLaws
namespace Go.Proofs.Ytejejeginfjnjaa
open Go Go.AI Go.ChangeShapes Go.WideShapes Go.ChangeAt Go.RowKit
open Go.ChangeMaps (open_string shut_string)
set_option linter.unusedVariables false
theorem ownKnobNone : ownKnob Try.prog.godebug = none := by kernel_rfl

theorem calls_of {f : Nat} {S : List AV → Option AV} (h : SpecOk Try.prog f S) {args : List AV} {b : Bool} (hs : S args = some (.d (.bool b))) {cargs : Array Value} {W : World} (hsz : cargs.size = args.length)
    (hrel : ∀ i, i < args.length → RelV W (fun _ => False) (fun _ => Option.none) [] (args.getD i .undef) (cargs.getD i undef)) :
    Calls Try.prog f cargs W fun e W' => e = .returned (.bool b) ∧ Go.RowKit.Below W.heap.size W W' := by
  refine ((h _ _ hs).2.2 (fun _ => False) W cargs (fun _ h => h.elim) hsz hrel).mono fun e W' ⟨v, he, hv, hf⟩ => ?_
  cases hv with
  | d _ _ hd => cases hd; exact ⟨he, hf.below⟩

theorem walkPlaceOnce (a0 : ByteArray) (a1 : Int) (W : World) : Calls Try.prog 5 #[.string a0, .int .i64 a1] W fun e W' => e = .returned (.bool true) ∧ Below W.heap.size W W' := by
  refine calls_of S5_ok (args := [.d (.str a0.data.toList), .d (.int .i64 a1)]) rfl rfl ?_
  intro i hi
  match i, hi with
  | 0, _ => exact .d _ _ (.str _ _ rfl)
  | 1, _ => exact .d _ _ (.int _ _)

set_option maxRecDepth 100000 in
theorem liftedPlaceOnce (os : Os) (started : os.Started) (H : Type) (enc : TypeId × Value → H) :
    ReturnsInHanded {} Try.checked os 5 .any (Rows.placeOnceSpec.pre6 enc Try.prog Try.f5 Rows.placeOnceRow.domain false) (Rows.placeOnceSpec.post enc Try.prog Try.f5 false true false false) := by
  refine returnsInHanded_of_change_sized (C := Try.checked) ownKnobNone started (by kernel_rfl) Try.func5
    (ChangeSpec.witness6 (enc := enc) (C := Try.checked) false ⟨#[], #[.string ByteArray.empty, .int .i64 0], []⟩ 8 (by kernel_rfl) (by kernel_rfl) (by kernel_rfl) (by kernel_rfl)) ?_
  intro W base args ds gs before hval0 hW hcnd hsz0 _
  have hval : ∀ (j : Nat) t v, Try.f5.params[j]? = some t → args[j]? = some v → Value.okWide Try.prog W .any base t v := hval0
  have hW' := hW
  obtain ⟨p, q, hA0, hV, rfl, hfz, hnd⟩ := hW
  have hA : DataW.TrodAll enc Try.prog W 0 (fun _ => true) true Try.f5.params.toList args.toList ds p := hA0
  rw [Try.params5] at hA hval
  obtain ⟨v0, vs0, d0, ds0, p0, q0, hargs, rfl, rfl, h0, r0⟩ := trodAll_cons hA
  obtain ⟨v1, vs1, d1, ds1, p1, q1, rfl, rfl, rfl, h1, r1⟩ := trodAll_cons r0
  obtain ⟨rfl, rfl, rfl⟩ := trodAll_nil r1
  obtain rfl : args = #[v0, v1] := by cases args; simp_all
  obtain ⟨rfl, rfl⟩ := trodVars_none hV
  obtain ⟨a0, rfl, rfl, rfl, w0⟩ := open_string Try.underlying9 (hval 0 9 v0 rfl rfl) h0
  obtain ⟨a1, rfl, rfl, rfl, w1⟩ := open_int Try.underlying3 (hval 1 3 v1 rfl rfl) h1
  refine (walkPlaceOnce a0 a1 W).mono fun e W' ⟨he, bel⟩ => ?_
  subst he
  exact ⟨_, rfl, _, _, _, [], _, [], hW', trodAll_mk1 (shut_bool Try.underlying4 _), (trodAll_cons_mk (shut_string Try.underlying9 w0) (trodAll_cons_mk (shut_int Try.underlying3 w1) trodAll_mk0)), rfl, bel.frame _, fun h => by cases h⟩

theorem placeOnce_holds : Rows.PlaceOnceSaid :=
  OpenClaim.holds_of_wide 5 Try.f5 rfl rfl rfl rfl rfl rfl rfl ⟨rfl, rfl, rfl, rfl, rfl⟩ rfl rfl rfl rfl rfl (by kernel_rfl) Try.func5 (by kernel_rfl)
    (of_decide_eq_true (by kernel_rfl)) (by unfold Func.isWrapper; first | (rw [if_pos (by decide +kernel)]; kernel_rfl) | (rw [if_neg (by decide +kernel)]; exact ⟨rfl, rfl⟩))
    (fun os started H enc _ => liftedPlaceOnce os started H enc)
end Go.Proofs.Ytejejeginfjnjaa
#print axioms Go.Proofs.Ytejejeginfjnjaa.placeOnce_holds
