/- What is committed is what the document says: BallotCommits; the members' list. -/
import Derived.Test.YtnephacfnbcdeaaAiPeersL
import Derived.Test.YtnephacfnbcdeaaAiPeersF
namespace Go.Proofs.Ytnephacfnbcdeaa
open Go Go.AI Go.Shelf
set_option linter.unusedVariables false

def S10 : List AV → Option AV
  | [.d (.int .i64 c), .agg [.d (.int .i64 a0), .d (.int .i64 a1), .d (.int .i64 a2), .d (.int .i64 a3), .d (.int .i64 a4), .d (.int .i64 a5), .d (.int .i64 a6)], .d (.int .i64 a), .d (.int .i64 b), .d (.int .i64 d)] => some (.d (.bool true))
  | _ => none

theorem S10_ok : SpecOk Try.prog 10 S10 := by
  refine spec_of T_ok (tblAdd_ok S16_ok (tblAdd_ok S26_ok (tblAdd_ok S27_ok (tblAdd_ok S28_ok (tblAdd_ok S15_ok (tblAdd_ok S29_ok (tblAdd_ok S13_ok (tbl0_ok _)))))))) mixed Try.func10 (by kernel_rfl) rfl (by kernel_rfl) ?_
  intro args r h
  unfold S10 at h
  split at h
  · rename_i c a0 a1 a2 a3 a4 a5 a6 a b d
    cases h
    refine ⟨by simp [Try.f10], rfl, rfl, ?_⟩
    have hq := quo_ref c a
    repeat' (first | ((conv => whnf); intro _ _) | ((conv => whnf); refine And.intro ?_ ?_ <;> intro h <;> cases h) | ((conv => whnf); refine And.intro (?_ : Side _) ?_) | fail)
    all_goals (conv => whnf)
    all_goals first
      | (rename_i h; rw [h]; done)
      | (exfalso; grind)
  · cases h

def S56 : List AV → List AObj → Option (AV × List AObj)
  | [.nils, .fn (.func 52) [.ptr 0 0 0 0]], [.var [.d (.int .i64 c)] 0] => match upTo (msk c) 7 with
    | [] => some (.nils, [.var [.d (.int .i64 c)] 0])
    | x :: l => some (.win 1 0 (l.length + 1) l.length, [.var [.d (.int .i64 c)] 0, .arr (rowsN (x :: l)) 1 l.length])
  | _, _ => none

def ob56 (c : Int) : List Nat → List AObj
  | [] => [.var [.d (.int .i64 c)] 0, .var [.nils] 0]
  | x :: l => [.var [.d (.int .i64 c)] 0, .var [.win 2 0 (l.length + 1) l.length] 0, .arr (rowsN (x :: l)) 1 l.length]

theorem S56_ok : SpecO Try.prog 56 S56 := by
  refine specO_of T_ok (tblIt_ok S52_ok (tbl0_ok _)) mixed Try.func56 (by kernel_rfl) rfl (by kernel_rfl) ?_
  intro args objs r objs' h
  unfold S56 at h
  split at h
  · rename_i c
    refine ⟨by simp [Try.f56], ?_⟩
    conv => whnf
    refine ⟨fun pre ob => ∃ L : List Nat, pre = L.map dInt ∧ ob = ob56 c L, ⟨[], rfl, rfl⟩, ?_, ?_, ?_⟩
    · rintro pre ob ⟨L, _, rfl⟩
      cases L <;> rfl
    · rintro pre r ob ⟨L, rfl, rfl⟩ ⟨n, hn, rfl⟩ hlen
      have hlen : L.length < 7 := by
        have : (L.map dInt).length < 7 := hlen
        simpa using this
      cases L with
      | nil =>
        repeat' (first | ((conv => whnf); intro _ _) | ((conv => whnf); refine And.intro ?_ ?_ <;> intro h <;> cases h) | ((conv => whnf); refine And.intro (?_ : Side _) ?_) | ((conv => whnf); refine Or.inl ?_) | fail)
        all_goals (conv => whnf)
        · exact ⟨by simp [ty3]⟩
        · exact ⟨[n], rfl, rfl⟩
      | cons x l =>
        repeat' (first | ((conv => whnf); intro _ _) | ((conv => whnf); refine And.intro ?_ ?_ <;> intro h <;> cases h) | ((conv => whnf); refine And.intro (?_ : Side _) ?_) | ((conv => whnf); refine Or.inl ?_) | fail)
        all_goals (conv => whnf)
        · exact ⟨by simp [rowsN, ty3]; simp at hlen; omega⟩
        · refine ⟨x :: (l ++ [n]), by simp, ?_⟩
          show [AObj.var [.d (.int .i64 c)] 0, .var [.win 2 0 (l.length + 1 + 1) (l.length + 1)] 0, .arr (rowsN (x :: l) ++ [[D.int .i64 n]]) 1 (l.length + 1)] = _
          simp [ob56, rowsN]
    · rintro xs ob hS ⟨L, rfl, rfl⟩
      have hS : L.map dInt = (upTo (msk c) 7).map dInt := hS
      have hLe := dInt_inj hS
      rw [← hLe] at h
      cases L with
      | nil =>
        cases h
        conv => whnf
        exact ⟨rfl, rfl⟩
      | cons x l =>
        cases h
        conv => whnf
        exact ⟨rfl, rfl⟩
  · cases h

def S47 : List AV → List AObj → Option (AV × List AObj)
  | [.fn (.func 52) [.ptr 0 0 0 0]], [.var [.d (.int .i64 c)] 0] => match upTo (msk c) 7 with
    | [] => some (.nils, [.var [.d (.int .i64 c)] 0])
    | x :: l => some (.win 1 0 (l.length + 1) l.length, [.var [.d (.int .i64 c)] 0, .arr (rowsN (x :: l)) 1 l.length])
  | _, _ => none

theorem S47_ok : SpecO Try.prog 47 S47 := by
  obtain ⟨f56, hf⟩ : ∃ f, f = S56 := ⟨_, rfl⟩
  have htb : TblOk Try.prog (tblAddO 56 f56 tbl0) := by subst hf; exact tblAddO_ok S56_ok (tbl0_ok _)
  refine specO_of T_ok htb mixed Try.func47 (by kernel_rfl) rfl (by kernel_rfl) ?_
  intro args objs r objs' h
  unfold S47 at h
  split at h
  · rename_i c
    refine ⟨by simp [Try.f47], ?_⟩
    have et : f56 [.nils, .fn (.func 52) [.ptr 0 0 0 0]] [.var [.d (.int .i64 c)] 0] = some (r, objs') := by rw [hf]; exact h
    cases hL : upTo (msk c) 7 with
    | nil =>
      rw [hL] at h
      cases h
      conv => whnf
      generalize hX : Tbl.o _ _ _ _ = X
      cases (hX.symm.trans et : X = some _)
      conv => whnf
      exact ⟨rfl, rfl⟩
    | cons x l =>
      rw [hL] at h
      cases h
      conv => whnf
      generalize hX : Tbl.o _ _ _ _ = X
      cases (hX.symm.trans et : X = some _)
      conv => whnf
      exact ⟨rfl, rfl⟩
  · cases h

theorem S25_ok : SpecOk Try.prog 25 S38 := by
  obtain ⟨f47, hf⟩ : ∃ f, f = S47 := ⟨_, rfl⟩
  have htb : TblOk Try.prog (tblAddO 47 f47 (tblAddO 42 S42 tbl0)) := by subst hf; exact tblAddO_ok S47_ok (tblAddO_ok S42_ok (tbl0_ok _))
  refine specF_of T_ok htb mixed Try.func25 (by kernel_rfl) rfl (by kernel_rfl) ?_
  intro args r h
  unfold S38 at h
  split at h
  · rename_i c
    cases h
    refine ⟨by simp [Try.f25], rfl, rfl, ?_⟩
    cases hL : upTo (msk c) 7 with
    | nil =>
      have et : f47 [.fn (.func 52) [.ptr 0 0 0 0]] [.var [.d (.int .i64 c)] 0] = some (.nils, [.var [.d (.int .i64 c)] 0]) := by rw [hf]; simp only [S47, hL]
      conv => whnf
      generalize hX : Tbl.o _ _ _ _ = X
      cases (hX.symm.trans et : X = some _)
      conv => whnf
      rfl
    | cons x l =>
      have et : f47 [.fn (.func 52) [.ptr 0 0 0 0]] [.var [.d (.int .i64 c)] 0] = some (.win 1 0 (l.length + 1) l.length, [.var [.d (.int .i64 c)] 0, .arr (rowsN (x :: l)) 1 l.length]) := by rw [hf]; simp only [S47, hL]
      conv => whnf
      generalize hX : Tbl.o _ _ _ _ = X
      cases (hX.symm.trans et : X = some _)
      conv => whnf
      simp [frz, frz1, rowsN]
      try exact List.take_of_length_le (by simp)
  · cases h
end Go.Proofs.Ytnephacfnbcdeaa
