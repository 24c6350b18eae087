/- The rows of laws, out of their contracts: each returns true for every input; the input stays. -/
import Derived.Test.YtnephacfnbcdeaaRows
import Derived.Test.YtnephacfnbcdeaaAiPeersN
import Derived.Test.YtnephacfnbcdeaaAiV
import Derived.WalkKit
import Derived.ProofKit
import Derived.OpenShut
import Derived.ShutString
import Derived.ChangeOld
import Derived.Below
import Derived.SizedLaws
namespace Go.Proofs.Ytnephacfnbcdeaa
open Go Go.AI Go.ChangeShapes Go.WideShapes Go.ChangeAt Go.RowKit
open Go.ChangeMaps (open_string shut_string)
set_option linter.unusedVariables false
theorem ownKnobNone : ownKnob Try.prog.godebug = none := by kernel_rfl
theorem cells3 : Try.prog.cellsOf 3 = 1 := by kernel_rfl
theorem cells28 : Try.prog.cellsOf 28 = 7 := by kernel_rfl
theorem rel7 (w : World) (Wr : Nat → Prop) (ρ : Nat → Option (Nat × Nat)) (objs : List AObj) (a0 a1 a2 a3 a4 a5 a6 : Int) :
    RelV w Wr ρ objs (.agg [.d (.int .i64 a0), .d (.int .i64 a1), .d (.int .i64 a2), .d (.int .i64 a3), .d (.int .i64 a4), .d (.int .i64 a5), .d (.int .i64 a6)]) (ints7 .i64 a0 a1 a2 a3 a4 a5 a6) := by
  refine .agg _ _ rfl fun i hi => ?_
  match i, hi with
  | 0, _ => exact .d _ _ (.int _ _)
  | 1, _ => exact .d _ _ (.int _ _)
  | 2, _ => exact .d _ _ (.int _ _)
  | 3, _ => exact .d _ _ (.int _ _)
  | 4, _ => exact .d _ _ (.int _ _)
  | 5, _ => exact .d _ _ (.int _ _)
  | 6, _ => exact .d _ _ (.int _ _)

theorem walkBallotCommits (a0 : Int) (a1p a1q a1r a1s a1t a1u a1v : Int) (a2 : Int) (a3 : Int) (a4 : Int) (W : World) : Calls Try.prog 10 #[.int .i64 a0, ints7 .i64 a1p a1q a1r a1s a1t a1u a1v, .int .i64 a2, .int .i64 a3, .int .i64 a4] W fun e W' => e = .returned (.bool true) ∧ Below W.heap.size W W' := by
  refine calls_of S10_ok (args := [.d (.int .i64 a0), .agg [.d (.int .i64 a1p), .d (.int .i64 a1q), .d (.int .i64 a1r), .d (.int .i64 a1s), .d (.int .i64 a1t), .d (.int .i64 a1u), .d (.int .i64 a1v)], .d (.int .i64 a2), .d (.int .i64 a3), .d (.int .i64 a4)]) rfl rfl ?_
  intro i hi
  match i, hi with
  | 0, _ => exact .d _ _ (.int _ _)
  | 1, _ => exact rel7 _ _ _ _ _ _ _ _ _ _ _
  | 2, _ => exact .d _ _ (.int _ _)
  | 3, _ => exact .d _ _ (.int _ _)
  | 4, _ => exact .d _ _ (.int _ _)

set_option maxRecDepth 100000 in
theorem liftedBallotCommits (os : Os) (started : os.Started) (H : Type) (enc : TypeId × Value → H) :
    ReturnsInHanded {} Try.checked os 10 .any (Rows.ballotCommitsSpec.pre6 enc Try.prog Try.f10 Rows.ballotCommitsRow.domain false) (Rows.ballotCommitsSpec.post enc Try.prog Try.f10 false true false false) := by
  refine returnsInHanded_of_change_sized (C := Try.checked) ownKnobNone started (by kernel_rfl) Try.func10
    (ChangeSpec.witness6 (enc := enc) (C := Try.checked) false ⟨#[], #[.int .i64 0, .agg #[.int .i64 0, .int .i64 0, .int .i64 0, .int .i64 0, .int .i64 0, .int .i64 0, .int .i64 0], .int .i64 0, .int .i64 0, .int .i64 0], []⟩ 8 (by kernel_rfl) (by kernel_rfl) (by kernel_rfl) (by kernel_rfl)) ?_
  intro W base args ds gs before hval0 hW hcnd hsz0 _
  have hval : ∀ (j : Nat) t v, Try.f10.params[j]? = some t → args[j]? = some v → Value.okWide Try.prog W .any base t v := hval0
  have hW' := hW
  obtain ⟨p, q, hA0, hV, rfl, hfz, hnd⟩ := hW
  have hA : DataW.TrodAll enc Try.prog W 0 (fun _ => true) true Try.f10.params.toList args.toList ds p := hA0
  rw [Try.params10] at hA hval
  obtain ⟨v0, vs0, d0, ds0, p0, q0, hargs, rfl, rfl, h0, r0⟩ := trodAll_cons hA
  obtain ⟨v1, vs1, d1, ds1, p1, q1, rfl, rfl, rfl, h1, r1⟩ := trodAll_cons r0
  obtain ⟨v2, vs2, d2, ds2, p2, q2, rfl, rfl, rfl, h2, r2⟩ := trodAll_cons r1
  obtain ⟨v3, vs3, d3, ds3, p3, q3, rfl, rfl, rfl, h3, r3⟩ := trodAll_cons r2
  obtain ⟨v4, vs4, d4, ds4, p4, q4, rfl, rfl, rfl, h4, r4⟩ := trodAll_cons r3
  obtain ⟨rfl, rfl, rfl⟩ := trodAll_nil r4
  obtain rfl : args = #[v0, v1, v2, v3, v4] := by cases args; simp_all
  obtain ⟨rfl, rfl⟩ := trodVars_none hV
  obtain ⟨a0, rfl, rfl, rfl, w0⟩ := open_int Try.underlying3 (hval 0 3 v0 rfl rfl) h0
  obtain ⟨a1p, a1q, a1r, a1s, a1t, a1u, a1v, rfl, rfl, rfl, w1p, w1q, w1r, w1s, w1t, w1u, w1v⟩ := open_ints7 Try.underlying28 Try.underlying3 cells3 cells28 (hval 1 28 v1 rfl rfl) h1
  obtain ⟨a2, rfl, rfl, rfl, w2⟩ := open_int Try.underlying3 (hval 2 3 v2 rfl rfl) h2
  obtain ⟨a3, rfl, rfl, rfl, w3⟩ := open_int Try.underlying3 (hval 3 3 v3 rfl rfl) h3
  obtain ⟨a4, rfl, rfl, rfl, w4⟩ := open_int Try.underlying3 (hval 4 3 v4 rfl rfl) h4
  refine (walkBallotCommits a0 a1p a1q a1r a1s a1t a1u a1v a2 a3 a4 W).mono fun e W' ⟨he, bel⟩ => ?_
  subst he
  exact ⟨_, rfl, _, _, _, [], _, [], hW', trodAll_mk1 (shut_bool Try.underlying4 _), (trodAll_cons_mk (shut_int Try.underlying3 w0) (trodAll_cons_mk (shut_ints7 Try.underlying28 Try.underlying3 cells3 cells28 w1p w1q w1r w1s w1t w1u w1v) (trodAll_cons_mk (shut_int Try.underlying3 w2) (trodAll_cons_mk (shut_int Try.underlying3 w3) (trodAll_cons_mk (shut_int Try.underlying3 w4) trodAll_mk0))))), rfl, bel.frame _, fun h => by cases h⟩

theorem ballotCommits_holds : Rows.BallotCommitsSaid :=
  OpenClaim.holds_of_wide 10 Try.f10 rfl rfl rfl rfl rfl rfl rfl ⟨rfl, rfl, rfl, rfl, rfl⟩ rfl rfl rfl rfl rfl (by kernel_rfl) Try.func10 (by kernel_rfl)
    (of_decide_eq_true (by kernel_rfl)) (by unfold Func.isWrapper; first | (rw [if_pos (by decide +kernel)]; kernel_rfl) | (rw [if_neg (by decide +kernel)]; exact ⟨rfl, rfl⟩))
    (fun os started H enc _ => liftedBallotCommits os started H enc)
end Go.Proofs.Ytnephacfnbcdeaa
#print axioms Go.Proofs.Ytnephacfnbcdeaa.ballotCommits_holds
