/- What is committed; awake of layer 12; the laws BallotRises and PeersMatch. -/
import Derived.Test.YtnephacfnbcdeaaAiPeersK
import Derived.Test.YtnephacfnbcdeaaAiPeersE
import Derived.Test.YtnephacfnbcdeaaAiBallot
namespace Go.Proofs.Ytnephacfnbcdeaa
open Go Go.AI Go.Shelf
set_option linter.unusedVariables false

def commitI (c : Int) (ms : List Int) (a b d : Int) : Int := if b = d then max a (matchI c ms) else a

def S16 : List AV → Option AV
  | [.d (.int .i64 c), .agg [.d (.int .i64 a0), .d (.int .i64 a1), .d (.int .i64 a2), .d (.int .i64 a3), .d (.int .i64 a4), .d (.int .i64 a5), .d (.int .i64 a6)], .d (.int .i64 a), .d (.int .i64 b), .d (.int .i64 d)] =>
    some (.d (.int .i64 (commitI c [a0, a1, a2, a3, a4, a5, a6] a b d)))
  | _ => none

theorem S16_ok : SpecOk Try.prog 16 S16 := by
  refine spec_of T_ok (tblAdd_ok S18_ok (tbl0_ok _)) mixed Try.func16 (by kernel_rfl) rfl (by kernel_rfl) ?_
  intro args r h
  unfold S16 at h
  split at h
  · rename_i c a0 a1 a2 a3 a4 a5 a6 a b d
    cases h
    refine ⟨by simp [Try.f16], rfl, rfl, ?_⟩
    repeat' (first | ((conv => whnf); intro _ _) | ((conv => whnf); refine And.intro ?_ ?_ <;> intro h <;> cases h) | ((conv => whnf); refine And.intro (?_ : Side _) ?_) | ((conv => whnf); refine Or.inl ?_) | fail)
    all_goals (conv => whnf)
    · rename_i h
      have hne : ¬ b = d := by
        intro e; subst e; simp at h
      rw [commitI, if_neg hne]
    · rename_i h
      have he : b = d := by
        simpa using h
      rw [commitI, if_pos he, max_if]
  · cases h

theorem S26_ok : SpecOk Try.prog 26 S16 := by
  refine spec_of T_ok (tblAdd_ok S17_ok (tbl0_ok _)) mixed Try.func26 (by kernel_rfl) rfl (by kernel_rfl) ?_
  intro args r h
  unfold S16 at h
  split at h
  · rename_i c a0 a1 a2 a3 a4 a5 a6 a b d
    cases h
    refine ⟨by simp [Try.f26], rfl, rfl, ?_⟩
    repeat' (first | ((conv => whnf); intro _ _) | ((conv => whnf); refine And.intro ?_ ?_ <;> intro h <;> cases h) | ((conv => whnf); refine And.intro (?_ : Side _) ?_) | ((conv => whnf); refine Or.inl ?_) | fail)
    all_goals (conv => whnf)
    · rename_i h1 h2
      have h1 := of_decide_eq_true h1.symm
      have he : d = b := by simpa using h2
      rw [commitI, if_pos he.symm, ← match_ref]
      exact congrArg (fun z => AV.d (D.int .i64 z)) (by omega)
    · rename_i h1 h2
      have hne : ¬ b = d := by
        intro e; subst e; simp at h2
      rw [commitI, if_neg hne]
    · rename_i h1
      have h1 := of_decide_eq_false h1.symm
      rw [commitI, ← match_ref]
      split
      · exact congrArg (fun z => AV.d (D.int .i64 z)) (by omega)
      · rfl
  · cases h

def S19 : List AV → Option AV
  | [] => some (.d (.bool true))
  | _ => none

theorem S19_ok : SpecOk Try.prog 19 S19 := by
  refine spec_of T_ok (tblAdd_ok S18_ok (tblAdd_ok S20_ok (tblAdd_ok S23_ok (tbl0_ok _)))) mixed Try.func19 (by kernel_rfl) rfl (by kernel_rfl) ?_
  intro args r h
  unfold S19 at h
  split at h
  · cases h
    refine ⟨by simp [Try.f19], rfl, rfl, ?_⟩
    repeat' (first | ((conv => whnf); intro _ _) | ((conv => whnf); refine And.intro ?_ ?_ <;> intro h <;> cases h) | ((conv => whnf); refine And.intro (?_ : Side _) ?_) | ((conv => whnf); refine Or.inl ?_) | fail)
    all_goals (conv => whnf)
    all_goals have q1 : quoB 7 3 = true := by decide +kernel
    all_goals have q2 : quoB 7 1 = false := by decide +kernel
    all_goals have q3 : (matchI 7 [5, 3, 4, 0, 0, 0, 0] == 4) = true := by rw [← match_ref]; decide +kernel
    all_goals have q4 : (chgI 7 15 == 0) = true := by decide +kernel
    · rename_i h
      rw [h, q4]
    · rename_i h
      rw [q3] at h; cases h
    · rename_i h1 h2
      rw [h1, q2] at h2; cases h2
    · rename_i h
      rw [q1] at h; cases h
  · cases h

theorem commit_ge (c : Int) (ms : List Int) (a b d : Int) : a ≤ commitI c ms a b d := by
  unfold commitI
  split <;> omega
theorem commit_eq (c : Int) (ms : List Int) (a b d : Int) (h : a < commitI c ms a b d) : d = b ∧ commitI c ms a b d = refM c ms := by
  rw [match_ref]
  unfold commitI at h ⊢
  split at h
  · rename_i e
    rw [if_pos e]
    exact ⟨e.symm, by omega⟩
  · omega

def S6 : List AV → Option AV
  | [.d (.int .i64 c), .agg [.d (.int .i64 a0), .d (.int .i64 a1), .d (.int .i64 a2), .d (.int .i64 a3), .d (.int .i64 a4), .d (.int .i64 a5), .d (.int .i64 a6)], .d (.int .i64 a), .d (.int .i64 b), .d (.int .i64 d)] => some (.d (.bool true))
  | _ => none

theorem S6_ok : SpecOk Try.prog 6 S6 := by
  refine spec_of T_ok (tblAdd_ok S16_ok (tblAdd_ok S17_ok (tblAdd_ok S13_ok (tbl0_ok _)))) mixed Try.func6 (by kernel_rfl) rfl (by kernel_rfl) ?_
  intro args r h
  unfold S6 at h
  split at h
  · rename_i c a0 a1 a2 a3 a4 a5 a6 a b d
    cases h
    refine ⟨by simp [Try.f6], rfl, rfl, ?_⟩
    repeat' (first | ((conv => whnf); intro _ _) | ((conv => whnf); refine And.intro ?_ ?_ <;> intro h <;> cases h) | ((conv => whnf); refine And.intro (?_ : Side _) ?_) | ((conv => whnf); refine Or.inl ?_) | fail)
    all_goals (conv => whnf)
    all_goals have hge := commit_ge c [a0, a1, a2, a3, a4, a5, a6] a b d
    all_goals have heq := commit_eq c [a0, a1, a2, a3, a4, a5, a6] a b d
    · rename_i h
      have := of_decide_eq_true h.symm; omega
    · rename_i h1 h2 h3
      have h2 := heq (of_decide_eq_true h2.symm)
      rw [h2.1] at h3; simp at h3
    · rename_i h1 h2 h3 h4
      have h2 := heq (of_decide_eq_true h2.symm)
      have := of_decide_eq_true h4.symm
      omega
    all_goals (rename_i h; rw [h])
  · cases h

def S7 : List AV → Option AV
  | [.d (.int .i64 c), .agg [.d (.int .i64 a0), .d (.int .i64 a1), .d (.int .i64 a2), .d (.int .i64 a3), .d (.int .i64 a4), .d (.int .i64 a5), .d (.int .i64 a6)]] => some (.d (.bool true))
  | _ => none

theorem S7_ok : SpecOk Try.prog 7 S7 := by
  refine spec_of T_ok (tblAdd_ok S18_ok (tblAdd_ok S17_ok (tblAdd_ok S19_ok (tbl0_ok _)))) mixed Try.func7 (by kernel_rfl) rfl (by kernel_rfl) ?_
  intro args r h
  unfold S7 at h
  split at h
  · rename_i c a0 a1 a2 a3 a4 a5 a6
    cases h
    refine ⟨by simp [Try.f7], rfl, rfl, ?_⟩
    repeat' (first | ((conv => whnf); intro _ _) | ((conv => whnf); refine And.intro ?_ ?_ <;> intro h <;> cases h) | ((conv => whnf); refine And.intro (?_ : Side _) ?_) | ((conv => whnf); refine Or.inl ?_) | fail)
    all_goals (conv => whnf)
    all_goals have hq : (matchI c [a0, a1, a2, a3, a4, a5, a6] == refM c [a0, a1, a2, a3, a4, a5, a6]) = true := by rw [match_ref]; simp
    · rename_i h1 h2; rw [h2]
    · rename_i h1; rw [hq] at h1; cases h1
  · cases h
end Go.Proofs.Ytnephacfnbcdeaa
