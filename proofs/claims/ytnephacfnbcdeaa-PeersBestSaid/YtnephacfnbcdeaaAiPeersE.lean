/- Contracts: where it is sent again. -/
import Derived.Test.YtnephacfnbcdeaaAiPeersD
namespace Go.Proofs.Ytnephacfnbcdeaa
open Go Go.AI

def hld (a : Int) : Int := min (max a 0) 2147483648
def S41 : List AV → Option AV
  | [.d (.int .i64 a)] => some (.d (.int .i64 (hld a)))
  | _ => none

theorem max_if (x y : Int) : (if y > x then y else x) = max x y := by omega
theorem min_if (x y : Int) : (if y < x then y else x) = min x y := by omega

theorem S41_ok : SpecOk Try.prog 41 S41 := by
  refine spec_of T_ok (tbl0_ok _) mixed Try.func41 (by kernel_rfl) rfl (by kernel_rfl) ?_
  intro args r h
  unfold S41 at h
  split at h
  · rename_i a
    cases h
    refine ⟨by simp [Try.f41], rfl, rfl, ?_⟩
    conv => whnf
    refine congrArg (fun z => AV.d (D.int .i64 z)) ?_
    unfold hld
    rw [min_if, max_if]
  · cases h

theorem S48_ok : SpecOk Try.prog 48 S41 := by
  refine spec_of T_ok (tbl0_ok _) mixed Try.func48 (by kernel_rfl) rfl (by kernel_rfl) ?_
  intro args r h
  unfold S41 at h
  split at h
  · rename_i a
    cases h
    refine ⟨by simp [Try.f48], rfl, rfl, ?_⟩
    conv => whnf
    refine congrArg (fun z => AV.d (D.int .i64 z)) ?_
    unfold hld
    rw [min_if, max_if]
  · cases h

theorem hld_b (a : Int) : 0 ≤ hld a ∧ hld a ≤ 2147483648 := by unfold hld; omega

def backI (a b c : Int) : Int := max (hld b + 1) (min (hld c + 1) (max (hld a - 1) 1))
def S15 : List AV → Option AV
  | [.d (.int .i64 a), .d (.int .i64 b), .d (.int .i64 c)] => some (.d (.int .i64 (backI a b c)))
  | _ => none

theorem S15_ok : SpecOk Try.prog 15 S15 := by
  refine spec_of T_ok (tblAdd_ok S41_ok (tbl0_ok _)) mixed Try.func15 (by kernel_rfl) rfl (by kernel_rfl) ?_
  intro args r h
  unfold S15 at h
  split at h
  · rename_i a b c
    cases h
    refine ⟨by simp [Try.f15], rfl, rfl, ?_⟩
    conv => whnf
    refine congrArg (fun z => AV.d (D.int .i64 z)) ?_
    have h1 := hld_b a; have h2 := hld_b b; have h3 := hld_b c
    rw [wrap64_id (n := hld a - 1) (by omega) (by omega), wrap64_id (n := hld b + 1) (by omega) (by omega), wrap64_id (n := hld c + 1) (by omega) (by omega)]
    unfold backI
    omega
  · cases h

theorem S29_ok : SpecOk Try.prog 29 S15 := by
  refine spec_of T_ok (tblAdd_ok S48_ok (tbl0_ok _)) mixed Try.func29 (by kernel_rfl) rfl (by kernel_rfl) ?_
  intro args r h
  unfold S15 at h
  split at h
  · rename_i a b c
    cases h
    refine ⟨by simp [Try.f29], rfl, rfl, ?_⟩
    conv => whnf
    refine congrArg (fun z => AV.d (D.int .i64 z)) ?_
    have h1 := hld_b a; have h2 := hld_b b; have h3 := hld_b c
    rw [wrap64_id (n := hld a - 1) (by omega) (by omega), wrap64_id (n := hld b + 1) (by omega) (by omega), wrap64_id (n := hld c + 1) (by omega) (by omega)]
    unfold backI
    omega
  · cases h

/-! Won -/
theorem S27_ok : SpecOk Try.prog 27 S23 := by
  refine spec_of T_ok (tblAdd_ok S23_ok (tbl0_ok _)) mixed Try.func27 (by kernel_rfl) rfl (by kernel_rfl) ?_
  intro args r h
  unfold S23 at h
  split at h
  · rename_i a b
    cases h
    refine ⟨by simp [Try.f27], rfl, rfl, ?_⟩
    repeat' (first | ((conv => whnf); intro _ _) | ((conv => whnf); refine And.intro ?_ ?_ <;> intro h <;> cases h) | fail)
    all_goals (conv => whnf)
    all_goals simp_all
  · cases h

theorem S28_ok : SpecOk Try.prog 28 S34 := by
  refine spec_of T_ok (tblAdd_ok S34_ok (tbl0_ok _)) mixed Try.func28 (by kernel_rfl) rfl (by kernel_rfl) ?_
  intro args r h
  unfold S34 at h
  split at h
  · rename_i a b
    cases h
    refine ⟨by simp [Try.f28], rfl, rfl, ?_⟩
    repeat' (first | ((conv => whnf); intro _ _) | ((conv => whnf); refine And.intro ?_ ?_ <;> intro h <;> cases h) | fail)
    all_goals (conv => whnf)
    all_goals simp_all
  · cases h

end Go.Proofs.Ytnephacfnbcdeaa
