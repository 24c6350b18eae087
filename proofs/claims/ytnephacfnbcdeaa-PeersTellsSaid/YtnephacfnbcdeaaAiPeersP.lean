/- What the document says of members: PeersTells. -/
import Derived.Test.YtnephacfnbcdeaaAiPeersO
namespace Go.Proofs.Ytnephacfnbcdeaa
open Go Go.AI Go.Shelf
set_option linter.unusedVariables false

def S11 : List AV → Option AV
  | [.d (.int .i64 c), .d (.int .i64 node), .d (.int .i64 yes), .d (.int .i64 n)] => some (.d (.bool true))
  | _ => none

def mid11 (c n : Int) (σ : AS) : Prop := σ.get 0 = .d (.int .i64 c) ∧ σ.get 3 = .d (.int .i64 n) ∧ σ.get 9 = .d (.bool true) ∧ σ.objs = []

def codeA : Code → Code
  | .seq a _ => a
  | c => c
def codeB : Code → Code
  | .seq _ b => b
  | c => c
noncomputable def body11 : Code := match Try.f11.body with | some c => c | none => .skip

theorem walkA11 (c node yes n : Int) : RW Try.prog Try.f11.ntmps (codeA body11) (thenK (fun σ => σ = ⟨(8, .d (.bool false)) :: ini 0 [.d (.int .i64 c), .d (.int .i64 node), .d (.int .i64 yes), .d (.int .i64 n)], []⟩) (resK Try.f11.results.toList (.d (.bool true)))) ⟨ini 0 [.d (.int .i64 c), .d (.int .i64 node), .d (.int .i64 yes), .d (.int .i64 n)], []⟩ := by
  refine .of T_ok (tbl0_ok _) mixed (by kernel_rfl) ?_
  conv => whnf

theorem walkB11 (c node yes n : Int) : RW Try.prog Try.f11.ntmps (codeA (codeB body11)) (thenK (mid11 c n) (resK Try.f11.results.toList (.d (.bool true)))) ⟨[(0, .d (.int .i64 c)), (1, .d (.int .i64 node)), (2, .d (.int .i64 yes)), (3, .d (.int .i64 n))], []⟩ := by
  refine .of T_ok (tblAdd_ok S22_ok (tblAdd_ok S30_ok (tblAdd_ok S24_ok (tblAdd_ok S31_ok (tblAdd_ok S32_ok (tblAdd_ok S33_ok (tblAdd_ok S23_ok (tblAdd_ok S34_ok (tbl0_ok _))))))))) mixed (by kernel_rfl) ?_
  have hq := quo_ref c yes
  repeat' (first | ((conv => whnf); intro _ _) | ((conv => whnf); refine And.intro ?_ ?_ <;> intro h <;> cases h) | ((conv => whnf); refine And.intro (?_ : Side _) ?_) | fail)
  all_goals (conv => whnf)
  all_goals first
    | exact ⟨rfl, rfl, congrArg (fun b => AV.d (D.bool b)) (by grind), rfl⟩
    | (exfalso; grind)

theorem walkC11 {f25 f37 f38 : List AV → Option AV} (h25 : SpecOk Try.prog 25 f25) (h38 : SpecOk Try.prog 38 f38) (h37 : SpecOk Try.prog 37 f37) (c n : Int) (R : List (List D)) (e25 : f25 [.d (.int .i64 c)] = some (.d (.sl R))) (e38 : f38 [.d (.int .i64 c)] = some (.d (.sl R)))
    (e37 : f37 [.d (.sl R), .d (.sl R)] = some (.d (.bool true))) : RW Try.prog Try.f11.ntmps (codeB (codeB body11)) (resK Try.f11.results.toList (.d (.bool true))) ⟨[(0, .d (.int .i64 c)), (3, .d (.int .i64 n)), (9, .d (.bool true))], []⟩ := by
  refine .of T_ok (tblAdd_ok S35_ok (tblAdd_ok S36_ok (tblAdd_ok h25 (tblAdd_ok h38 (tblAdd_ok h37 (tblAdd_ok S19_ok (tbl0_ok _))))))) mixed (by kernel_rfl) ?_
  repeat' (first | ((conv => whnf); intro _ _) | ((conv => whnf); refine And.intro ?_ ?_ <;> intro h <;> cases h) | ((conv => whnf); refine And.intro (?_ : Side _) ?_) | ((conv => whnf); generalize hX : Tbl.c _ _ _ = X; first | cases (hX.symm.trans e25 : X = some _) | cases (hX.symm.trans e38 : X = some _) | cases (hX.symm.trans e37 : X = some _)) | fail)
  all_goals (conv => whnf)
  all_goals first
    | exact congrArg (fun b => AV.d (D.bool b)) (by grind)
    | (exfalso; grind)

theorem S11_ok : SpecOk Try.prog 11 S11 := by
  intro args r h
  unfold S11 at h
  split at h
  · rename_i c node yes n
    cases h
    refine ⟨enters_of Try.func11 (by kernel_rfl) rfl, fun i hi => closed_get (cs := [.d (.int .i64 c), .d (.int .i64 node), .d (.int .i64 yes), .d (.int .i64 n)]) rfl hi, ?_⟩
    refine fn0_of' Try.func11 (show Try.f11.body = some (.seq (codeA body11) (.seq (codeA (codeB body11)) (codeB (codeB body11)))) from rfl) (by simp [Try.f11]) rfl ?_
    refine .seq _ (walkA11 c node yes n) ?_
    rintro _ rfl
    refine .seq (mid11 c n) (.weak (Weak.at _ ?_) (walkB11 c node yes n)) ?_
    · intro p hp
      simp only [List.mem_cons, List.not_mem_nil, or_false] at hp
      rcases hp with rfl | rfl | rfl | rfl <;> rfl
    · rintro ⟨tm, ob⟩ ⟨h0, h3, h9, hob⟩
      cases hob
      refine .weak (at3 h0 h3 h9) (walkC11 S25_ok S38_ok S37_ok c n (rowsN (upTo (msk c) 7)) rfl rfl ?_)
      simp only [S37]
      rw [if_pos ⟨by simp [rowsN, isI64], by simp [rowsN, isI64], by have := upTo_length (msk c) 7; simp [rowsN]; omega⟩]
      simp
  · cases h
end Go.Proofs.Ytnephacfnbcdeaa
