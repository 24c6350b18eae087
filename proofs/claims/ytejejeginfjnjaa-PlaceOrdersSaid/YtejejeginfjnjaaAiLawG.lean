/- The rows of laws, out of their contracts: each returns true for every input; the input stays. -/
import Derived.Test.YtejejeginfjnjaaRows
import Derived.Test.YtejejeginfjnjaaAiPlaceV
import Derived.WalkKit
import Derived.ProofKit
import Derived.OpenShut
import Derived.ShutString
import Derived.ChangeOld
import Derived.Below
import Derived.SizedLaws
namespace Go.Proofs.Ytejejeginfjnjaa
open Go Go.AI Go.ChangeShapes Go.WideShapes Go.ChangeAt Go.RowKit
open Go.ChangeMaps (open_string shut_string)
set_option linter.unusedVariables false
theorem ownKnobNone : ownKnob Try.prog.godebug = none := by kernel_rfl

theorem calls_of {f : Nat} {S : List AV → Option AV} (h : SpecOk Try.prog f S) {args : List AV} {b : Bool} (hs : S args = some (.d (.bool b))) {cargs : Array Value} {W : World} (hsz : cargs.size = args.length)
    (hrel : ∀ i, i < args.length → RelV W (fun _ => False) (fun _ => Option.none) [] (args.getD i .undef) (cargs.getD i undef)) :
    Calls Try.prog f cargs W fun e W' => e = .returned (.bool b) ∧ Go.RowKit.Below W.heap.size W W' := by
  refine ((h _ _ hs).2.2 (fun _ => False) W cargs (fun _ h => h.elim) hsz hrel).mono fun e W' ⟨v, he, hv, hf⟩ => ?_
  cases hv with
  | d _ _ hd => cases hd; exact ⟨he, hf.below⟩

theorem walkPlaceOrders (a0 : ByteArray) (a1 : Int) (a2 : Int) (W : World) : Calls Try.prog 3 #[.string a0, .int .i64 a1, .int .i64 a2] W fun e W' => e = .returned (.bool true) ∧ Below W.heap.size W W' := by
  refine calls_of S3_ok (args := [.d (.str a0.data.toList), .d (.int .i64 a1), .d (.int .i64 a2)]) rfl rfl ?_
  intro i hi
  match i, hi with
  | 0, _ => exact .d _ _ (.str _ _ rfl)
  | 1, _ => exact .d _ _ (.int _ _)
  | 2, _ => exact .d _ _ (.int _ _)

set_option maxRecDepth 100000 in
theorem liftedPlaceOrders (os : Os) (started : os.Started) (H : Type) (enc : TypeId × Value → H) :
    ReturnsInHanded {} Try.checked os 3 .any (Rows.placeOrdersSpec.pre6 enc Try.prog Try.f3 Rows.placeOrdersRow.domain false) (Rows.placeOrdersSpec.post enc Try.prog Try.f3 false true false false) := by
  refine returnsInHanded_of_change_sized (C := Try.checked) ownKnobNone started (by kernel_rfl) Try.func3
    (ChangeSpec.witness6 (enc := enc) (C := Try.checked) false ⟨#[], #[.string ByteArray.empty, .int .i64 0, .int .i64 0], []⟩ 8 (by kernel_rfl) (by kernel_rfl) (by kernel_rfl) (by kernel_rfl)) ?_
  intro W base args ds gs before hval0 hW hcnd hsz0 _
  have hval : ∀ (j : Nat) t v, Try.f3.params[j]? = some t → args[j]? = some v → Value.okWide Try.prog W .any base t v := hval0
  have hW' := hW
  obtain ⟨p, q, hA0, hV, rfl, hfz, hnd⟩ := hW
  have hA : DataW.TrodAll enc Try.prog W 0 (fun _ => true) true Try.f3.params.toList args.toList ds p := hA0
  rw [Try.params3] at hA hval
  obtain ⟨v0, vs0, d0, ds0, p0, q0, hargs, rfl, rfl, h0, r0⟩ := trodAll_cons hA
  obtain ⟨v1, vs1, d1, ds1, p1, q1, rfl, rfl, rfl, h1, r1⟩ := trodAll_cons r0
  obtain ⟨v2, vs2, d2, ds2, p2, q2, rfl, rfl, rfl, h2, r2⟩ := trodAll_cons r1
  obtain ⟨rfl, rfl, rfl⟩ := trodAll_nil r2
  obtain rfl : args = #[v0, v1, v2] := by cases args; simp_all
  obtain ⟨rfl, rfl⟩ := trodVars_none hV
  obtain ⟨a0, rfl, rfl, rfl, w0⟩ := open_string Try.underlying9 (hval 0 9 v0 rfl rfl) h0
  obtain ⟨a1, rfl, rfl, rfl, w1⟩ := open_int Try.underlying3 (hval 1 3 v1 rfl rfl) h1
  obtain ⟨a2, rfl, rfl, rfl, w2⟩ := open_int Try.underlying3 (hval 2 3 v2 rfl rfl) h2
  refine (walkPlaceOrders a0 a1 a2 W).mono fun e W' ⟨he, bel⟩ => ?_
  subst he
  exact ⟨_, rfl, _, _, _, [], _, [], hW', trodAll_mk1 (shut_bool Try.underlying4 _), (trodAll_cons_mk (shut_string Try.underlying9 w0) (trodAll_cons_mk (shut_int Try.underlying3 w1) (trodAll_cons_mk (shut_int Try.underlying3 w2) trodAll_mk0))), rfl, bel.frame _, fun h => by cases h⟩

theorem placeOrders_holds : Rows.PlaceOrdersSaid :=
  OpenClaim.holds_of_wide 3 Try.f3 rfl rfl rfl rfl rfl rfl rfl ⟨rfl, rfl, rfl, rfl, rfl⟩ rfl rfl rfl rfl rfl (by kernel_rfl) Try.func3 (by kernel_rfl)
    (of_decide_eq_true (by kernel_rfl)) (by unfold Func.isWrapper; first | (rw [if_pos (by decide +kernel)]; kernel_rfl) | (rw [if_neg (by decide +kernel)]; exact ⟨rfl, rfl⟩))
    (fun os started H enc _ => liftedPlaceOrders os started H enc)
end Go.Proofs.Ytejejeginfjnjaa
#print axioms Go.Proofs.Ytejejeginfjnjaa.placeOrders_holds
