/- The row of RaftNobody: what it does is the same for every input, and is run. -/
import Derived.Test.YtjdjfchhbocncaaGreatRows
import Derived.Test.YtjdjfchhbocncaaGreatAiRk
import Derived.Test.YtjdjfchhbocncaaGreatAiArg
import Derived.WalkKit
import Derived.ProofKit
import Derived.OpenShut
import Derived.ShutString
import Derived.ChangeOld
import Derived.Below
import Derived.SizedLaws
import Derived.SliceStrings
import Derived.Carry
namespace Go.Proofs.YtjdjfchhbocncaaGreat
open Go Go.AI Go.ChangeShapes Go.WideShapes Go.ChangeAt Go.RowKit
set_option linter.unusedVariables false
theorem ownKnobNone : ownKnob Tryz.prog.godebug = none := by kernel_rfl
theorem laidAll : laidOutB Tryz.prog = true := by kernel_rfl

def argsR : List AV := [.agg (List.replicate 13 .uc), .undef, .undef]
theorem run3 : E.call 30 3 argsR [] = some (.d (.bool true), []) := by kernel_rfl

/-- A run that is given nothing it may write. -/
theorem calls_run {n f : Nat} {args : List AV} {b : Bool} {ob : List AObj} (h : E.call n f args [] = some (.d (.bool b), ob)) {cargs : Array Value} {W : World} (hsz : cargs.size = args.length)
    (hrel : ∀ i, i < args.length → RelV W (fun _ => False) (fun _ => Option.none) [] (args.getD i .undef) (cargs.getD i undef)) :
    Calls Tryz.prog f cargs W fun e W' => e = .returned (.bool b) ∧ Go.RowKit.Below W.heap.size W W' := by
  have hs := (E_ok.call_ok n f _ _ _ _ h).2
  let F : Fr := ⟨0, [], fun _ => False, fun _ => False, W, [], fun _ => Option.none⟩
  have hW : ∀ b, Wrt F (fun _ => Option.none) [] b → False := fun b h => h.elim id fun ⟨_, _, _, h, _⟩ => (by simp at h)
  have hH : RelH F (fun _ => Option.none) [] W := ⟨fun id o h => by simp at h, fun id id' o o' b δ δ' h => by simp at h, fun id o b δ h => by simp at h, fun _ h => h.elim, Frm.refl _ _, Ext.refl _ _⟩
  refine (hs F (fun _ => Option.none) W cargs rfl rfl rfl hH hsz fun i hi => (hrel i hi).stay (Frm.refl _ _) (fun b _ _ hw => hW b hw) (Ext.refl _ _)).mono ?_
  rintro e w' ⟨v, ρ', rfl, g1, g2⟩
  exact ⟨by rw [relD_bool g2], g1.frm.below⟩

theorem walkRaftNobody (v0 v1 v2 : Value) (W : World) (w0 : RelV W (fun _ => False) (fun _ => Option.none) [] (.agg (List.replicate 13 .uc)) v0) : Calls Tryz.prog 3 #[v0, v1, v2] W fun e W' => e = .returned (.bool true) ∧ Below W.heap.size W W' := by
  refine calls_run run3 rfl ?_
  intro i hi
  match i, hi with
  | 0, _ => exact w0
  | 1, _ => exact .undef _
  | 2, _ => exact .undef _

set_option maxRecDepth 100000 in
theorem liftedRaftNobody (os : Os) (started : os.Started) (H : Type) (enc : TypeId × Value → H) :
    ReturnsInHanded {} Tryz.checked os 3 .any (Rows.raftNobodySpec.pre6 enc Tryz.prog Tryz.f3 Rows.raftNobodyRow.domain false) (Rows.raftNobodySpec.post enc Tryz.prog Tryz.f3 false true false false) := by
  refine returnsInHanded_of_change_sized (C := Tryz.checked) ownKnobNone started (by kernel_rfl) Tryz.func3
    (ChangeSpec.witness6 (enc := enc) (C := Tryz.checked) false ⟨#[], #[.agg #[.int .i64 0, .int .i64 0, .int .i64 0, .int .i64 0, .int .i64 0, .int .i64 0, .int .i64 0, .int .i64 0, .int .i64 0, .bool false, .slice Option.none 0 0, .slice Option.none 0 0, .string ByteArray.empty], .int .i64 0, .slice Option.none 0 0], []⟩ 8 (by kernel_rfl) (by kernel_rfl) (by kernel_rfl) (by kernel_rfl)) ?_
  intro W base args ds gs before hval0 hW hcnd hsz0 _
  have hval : ∀ (j : Nat) t v, Tryz.f3.params[j]? = some t → args[j]? = some v → Value.okWide Tryz.prog W .any base t v := hval0
  have hW' := hW
  obtain ⟨p, q, hA0, hV, rfl, hfz, hnd⟩ := hW
  have hA : DataW.TrodAll enc Tryz.prog W 0 (fun _ => true) true Tryz.f3.params.toList args.toList ds p := hA0
  rw [Tryz.params3] at hA hval
  obtain ⟨v0, vs0, d0, ds0, p0, q0, hargs, rfl, rfl, h0, r0⟩ := trodAll_cons hA
  obtain ⟨v1, vs1, d1, ds1, p1, q1, rfl, rfl, rfl, h1, r1⟩ := trodAll_cons r0
  obtain ⟨v2, vs2, d2, ds2, p2, q2, rfl, rfl, rfl, h2, r2⟩ := trodAll_cons r1
  obtain ⟨rfl, rfl, rfl⟩ := trodAll_nil r2
  obtain rfl : args = #[v0, v1, v2] := by cases args; simp_all
  obtain ⟨rfl, rfl⟩ := trodVars_none hV
  have hs : ∃ fs, shOf Tryz.prog 10 25 = some fs ∧ fs.length = 13 := by
    refine ⟨[.int .i64, .int .i64, .int .i64, .int .i64, .int .i64, .int .i64, .int .i64, .int .i64, .int .i64, .bool, .sl [.int .i64, .int .i64, .int .i64, .sl [.int .u8]], .sl [.int .u8], .str], ?_, rfl⟩
    kernel_rfl
  obtain ⟨fs, hfs, hl⟩ := hs
  have w0 : RelV W (fun _ => False) (fun _ => Option.none) [] (.agg (List.replicate 13 .uc)) v0 := by
    have := uc_of hfs (by omega) h0 (fun _ => False) (fun _ => Option.none) []
    rwa [hl] at this
  refine (walkRaftNobody v0 v1 v2 W w0).mono fun e W' ⟨he, bel⟩ => ?_
  subst he
  exact ⟨_, rfl, _, _, _, [], _, [], hW', trodAll_mk1 (shut_bool Tryz.underlying4 _),
    (trodAll_cons_mk (Below.trod laidAll (by kernel_rfl) (of_decide_eq_true (by kernel_rfl)) h0 bel (by obtain ⟨n, hn⟩ := h0; exact DataW.trod_lt n _ _ _ hn))
    (trodAll_cons_mk (Below.trod laidAll (by kernel_rfl) (of_decide_eq_true (by kernel_rfl)) h1 bel (by obtain ⟨n, hn⟩ := h1; exact DataW.trod_lt n _ _ _ hn))
    (trodAll_cons_mk (Below.trod laidAll (by kernel_rfl) (of_decide_eq_true (by kernel_rfl)) h2 bel (by obtain ⟨n, hn⟩ := h2; exact DataW.trod_lt n _ _ _ hn)) trodAll_mk0))), rfl, bel.frame _, fun h => by cases h⟩

theorem raftNobody_holds : Rows.RaftNobodySaid :=
  OpenClaim.holds_of_wide 3 Tryz.f3 rfl rfl rfl rfl rfl rfl rfl ⟨rfl, rfl, rfl, rfl, rfl⟩ rfl rfl rfl rfl rfl (by kernel_rfl) Tryz.func3 (by kernel_rfl)
    (of_decide_eq_true (by kernel_rfl)) (by unfold Func.isWrapper; first | (rw [if_pos (by decide +kernel)]; kernel_rfl) | (rw [if_neg (by decide +kernel)]; exact ⟨rfl, rfl⟩))
    (fun os started H enc _ => liftedRaftNobody os started H enc)
end Go.Proofs.YtjdjfchhbocncaaGreat
#print axioms Go.Proofs.YtjdjfchhbocncaaGreat.raftNobody_holds
