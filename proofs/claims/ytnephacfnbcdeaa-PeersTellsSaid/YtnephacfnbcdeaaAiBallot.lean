import Derived.Test.YtnephacfnbcdeaaAiTy
namespace Go.Proofs.Ytnephacfnbcdeaa
open Go Go.AI

theorem wrap64_id {n : Int} (h0 : -9223372036854775808 ≤ n) (h1 : n ≤ 9223372036854775807) : IntKind.i64.wrap n = n := by
  simp [IntKind.wrap, IntKind.bits, IntKind.signed]; omega

def freshB (a b c d : Int) : Bool := if b = d then decide (c ≤ a) else decide (d < b)

def S12 : List AV → Option AV
  | [.d (.int .i64 a), .d (.int .i64 b), .d (.int .i64 c), .d (.int .i64 d)] => some (.d (.bool (freshB a b c d)))
  | _ => none

theorem S12_ok : SpecOk Try.prog 12 S12 := by
  refine spec_of T_ok (tbl0_ok _) mixed Try.func12 (by kernel_rfl) rfl (by kernel_rfl) ?_
  intro args r h
  unfold S12 at h
  split at h
  · rename_i a b c d
    cases h
    refine ⟨by simp [Try.f12], rfl, rfl, ?_⟩
    repeat' (first | ((conv => whnf); intro _ _) | ((conv => whnf); refine And.intro ?_ ?_ <;> intro h <;> cases h))
    all_goals (conv => whnf)
    all_goals simp_all [freshB]
  · cases h

def voteB (a b : Int) (f : Bool) : Bool := (a == 0 || IntKind.i64.wrap (a - 1) == b) && f
def S39 : List AV → Option AV
  | [.d (.int .i64 a), .d (.int .i64 b), .d (.bool f)] => some (.d (.bool (voteB a b f)))
  | _ => none

theorem S39_ok : SpecOk Try.prog 39 S39 := by
  refine spec_of T_ok (tbl0_ok _) mixed Try.func39 (by kernel_rfl) rfl (by kernel_rfl) ?_
  intro args r h
  unfold S39 at h
  split at h
  · rename_i a b f
    cases h
    refine ⟨by simp [Try.f39], rfl, rfl, ?_⟩
    repeat' (first | ((conv => whnf); intro _ _) | ((conv => whnf); refine And.intro ?_ ?_ <;> intro h <;> cases h))
    all_goals (conv => whnf)
    all_goals simp_all [voteB]
  · cases h

def withinB (a b c : Int) : Bool := decide (b ≤ a) && decide (a ≤ c)
def S40 : List AV → Option AV
  | [.d (.int .i64 a), .d (.int .i64 b), .d (.int .i64 c)] => some (.d (.bool (withinB a b c)))
  | _ => none

theorem S40_ok : SpecOk Try.prog 40 S40 := by
  refine spec_of T_ok (tbl0_ok _) mixed Try.func40 (by kernel_rfl) rfl (by kernel_rfl) ?_
  intro args r h
  unfold S40 at h
  split at h
  · rename_i a b c
    cases h
    refine ⟨by simp [Try.f40], rfl, rfl, ?_⟩
    repeat' (first | ((conv => whnf); intro _ _) | ((conv => whnf); refine And.intro ?_ ?_ <;> intro h <;> cases h))
    all_goals (conv => whnf)
    all_goals simp_all [withinB]
    all_goals (intros; omega)
  · cases h

def timeoutI (a : Int) : Int := if withinB a 0 6 then 10 + 3 * a else 10
def S14 : List AV → Option AV
  | [.d (.int .i64 a)] => some (.d (.int .i64 (timeoutI a)))
  | _ => none

theorem S14_ok : SpecOk Try.prog 14 S14 := by
  refine spec_of T_ok (tblAdd_ok S40_ok (tbl0_ok _)) mixed Try.func14 (by kernel_rfl) rfl (by kernel_rfl) ?_
  intro args r h
  unfold S14 at h
  split at h
  · rename_i a
    cases h
    refine ⟨by simp [Try.f14], rfl, rfl, ?_⟩
    repeat' (first | ((conv => whnf); intro _ _) | ((conv => whnf); refine And.intro ?_ ?_ <;> intro h <;> cases h))
    all_goals (conv => whnf)
    · rename_i c h1 h2
      subst h1
      simp at h2
      simp [timeoutI, h2]
    · rename_i c h1 h2
      subst h1
      simp at h2
      have h3 := h2
      simp [withinB] at h3
      rw [wrap64_id (n := 3 * a) (by omega) (by omega), wrap64_id (by omega) (by omega)]
      simp [timeoutI, h2]
  · cases h

def tb1 : Tbl := tblAdd 12 S12 (tblAdd 39 S39 (tblAdd 14 S14 tbl0))
theorem tb1_ok : TblOk Try.prog tb1 := tblAdd_ok S12_ok (tblAdd_ok S39_ok (tblAdd_ok S14_ok (tbl0_ok _)))

def S13 : List AV → Option AV
  | [] => some (.d (.bool true))
  | _ => none

theorem S13_ok : SpecOk Try.prog 13 S13 := by
  refine spec_of T_ok tb1_ok mixed Try.func13 (by kernel_rfl) rfl (by kernel_rfl) ?_
  intro args r h
  unfold S13 at h
  split at h
  · cases h
    refine ⟨by simp [Try.f13], rfl, rfl, ?_⟩
    repeat' (first | ((conv => whnf); intro _ _) | ((conv => whnf); refine And.intro ?_ ?_ <;> intro h <;> cases h))
    all_goals (conv => whnf)
    all_goals subst_vars
    all_goals simp [show freshB 3 2 9 1 = true by decide, show freshB 3 1 9 1 = false by decide, show voteB 2 1 true = true by decide, show voteB 2 0 true = false by decide, show timeoutI 2 = 16 by decide] at *
  · cases h

def tb2 : Tbl := tblAdd 13 S13 tb1
theorem tb2_ok : TblOk Try.prog tb2 := tblAdd_ok S13_ok tb1_ok

def S3 : List AV → Option AV
  | [.d (.int .i64 _), .d (.int .i64 _), .d (.int .i64 _), .d (.int .i64 _)] => some (.d (.bool true))
  | _ => none

theorem S3_ok : SpecOk Try.prog 3 S3 := by
  refine spec_of T_ok tb2_ok mixed Try.func3 (by kernel_rfl) rfl (by kernel_rfl) ?_
  intro args r h
  unfold S3 at h
  split at h
  · rename_i a b c d
    cases h
    refine ⟨by simp [Try.f3], rfl, rfl, ?_⟩
    repeat' (first | ((conv => whnf); intro _ _) | ((conv => whnf); refine And.intro ?_ ?_ <;> intro h <;> cases h))
    all_goals (conv => whnf)
    all_goals subst_vars
    all_goals simp [freshB] at *
    all_goals (repeat' split at *)
    all_goals first | omega | (simp at *; omega) | (subst_vars; rename_i hh; exact absurd (by simp) hh) | (rename_i hh; exact absurd (by simp [*, show ¬ b < d by omega]) hh)
  · cases h

def S4 : List AV → Option AV
  | [.d (.int .i64 _), .d (.int .i64 _)] => some (.d (.bool true))
  | _ => none

theorem S4_ok : SpecOk Try.prog 4 S4 := by
  refine spec_of T_ok tb2_ok mixed Try.func4 (by kernel_rfl) rfl (by kernel_rfl) ?_
  intro args r h
  unfold S4 at h
  split at h
  · rename_i a b
    cases h
    refine ⟨by simp [Try.f4], rfl, rfl, ?_⟩
    repeat' (first | ((conv => whnf); intro _ _) | ((conv => whnf); refine And.intro ?_ ?_ <;> intro h <;> cases h))
    all_goals (conv => whnf)
    all_goals subst_vars
    all_goals simp [timeoutI, withinB] at *
    all_goals (repeat' split at *)
    all_goals first | omega | (simp at *; omega)
  · cases h


theorem calls_of {f : Nat} {S : List AV → Option AV} (h : SpecOk Try.prog f S) {args : List AV} {b : Bool} (hs : S args = some (.d (.bool b))) {cargs : Array Value} {W : World} (hsz : cargs.size = args.length)
    (hrel : ∀ i, i < args.length → RelV W (fun _ => False) (fun _ => none) [] (args.getD i .undef) (cargs.getD i undef)) :
    Calls Try.prog f cargs W fun e W' => e = .returned (.bool b) ∧ Go.RowKit.Below W.heap.size W W' := by
  refine ((h _ _ hs).2.2 (fun _ => False) W cargs (fun _ h => h.elim) hsz hrel).mono fun e W' ⟨v, he, hv, hf⟩ => ?_
  cases hv with
  | d _ _ hd => cases hd; exact ⟨he, hf.below⟩

end Go.Proofs.Ytnephacfnbcdeaa
