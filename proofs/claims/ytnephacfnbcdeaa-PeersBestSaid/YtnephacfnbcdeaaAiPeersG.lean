/- ref12.Change. -/
import Derived.Test.YtnephacfnbcdeaaAiPeersF
namespace Go.Proofs.Ytnephacfnbcdeaa
open Go Go.AI

def xcnt (a b : Nat) : Nat → Nat
  | 0 => 0
  | i + 1 => xcnt a b i + (a.testBit i ^^ b.testBit i).toNat

theorem xcnt_le (a b i : Nat) : xcnt a b i ≤ i := by
  induction i with
  | zero => simp [xcnt]
  | succ i ih => simp only [xcnt]; cases (a.testBit i ^^ b.testBit i) <;> simp <;> omega

theorem xcnt_pop (a b : Nat) : xcnt a b 7 = pop (a ^^^ b) := by
  simp only [xcnt, pop, Nat.testBit_xor]
  omega

def st21 (a b : Int) (i : Nat) : AS :=
  ⟨[(0, .d (.int .i64 a)), (1, .d (.int .i64 b)), (5, .d (.int .i64 (xcnt (msk a) (msk b) i))), (6, .d (.int .i64 i))], []⟩

theorem at4 {σ : AS} {i j k l : Nat} {a b c d : AV} (h1 : σ.get i = a) (h2 : σ.get j = b) (h3 : σ.get k = c) (h4 : σ.get l = d) : Weak σ ⟨[(i, a), (j, b), (k, c), (l, d)], σ.objs⟩ :=
  Weak.at _ fun p hp => by
    simp only [List.mem_cons, List.not_mem_nil, or_false] at hp
    rcases hp with rfl | rfl | rfl | rfl
    · exact h1
    · exact h2
    · exact h3
    · exact h4

theorem i7 {i : Nat} (hi : i ≤ 7) (h : false = decide ((i : Int) < 7)) : i = 7 := by
  have h8 : ¬ (i : Int) < 7 := of_decide_eq_false h.symm
  omega

theorem S21_ok : SpecOk Try.prog 21 S20 := by
  refine spec_of T_ok (tblAdd_ok S30_ok (tblAdd_ok S31_ok (tbl0_ok _))) mixed Try.func21 (by kernel_rfl) rfl (by kernel_rfl) ?_
  intro args r h
  unfold S20 at h
  split at h
  · rename_i a b
    cases h
    refine ⟨by simp [Try.f21], rfl, rfl, ?_⟩
    conv => whnf
    refine ⟨fun k σ => ∃ i, i ≤ 7 ∧ k = 7 - i ∧ σ = st21 a b i, 7, ⟨_, at4 (i := 0) (j := 1) (k := 5) (l := 6) rfl rfl rfl rfl, 0, by omega, rfl, rfl⟩, ?_⟩
    rintro k σ ⟨i, hi, rfl, hσ⟩
    unfold st21 at hσ
    subst hσ
    have hx := xcnt_le (msk a) (msk b) i
    repeat' (first | ((conv => whnf); intro _ _) | ((conv => whnf); refine And.intro ?_ ?_ <;> intro h <;> cases h) | fail)
    all_goals (conv => whnf)
    · rename_i h7 p hp q hq hpq
      have hi7 : i < 7 := by have := of_decide_eq_true h7.symm; omega
      rw [hasB_nat _ hi7] at hp hq
      have hc : xcnt (msk a) (msk b) (i + 1) = xcnt (msk a) (msk b) i + 1 := by
        simp only [xcnt]
        rw [← hp, ← hq]
        cases p <;> cases q <;> simp at hpq ⊢
      refine ⟨7 - (i + 1), _, by omega, at4 (i := 0) (j := 1) (k := 5) (l := 6) rfl rfl (congrArg (fun z => AV.d (D.int .i64 z)) (nats_i64 (by omega))) (congrArg (fun z => AV.d (D.int .i64 z)) (nats_i64 (by omega))), i + 1, by omega, rfl, ?_⟩
      rw [st21, hc]
      rfl
    · rename_i h7 p hp q hq hpq
      have hi7 : i < 7 := by have := of_decide_eq_true h7.symm; omega
      rw [hasB_nat _ hi7] at hp hq
      have hc : xcnt (msk a) (msk b) (i + 1) = xcnt (msk a) (msk b) i := by
        simp only [xcnt]
        rw [← hp, ← hq]
        cases p <;> cases q <;> simp at hpq ⊢
      refine ⟨7 - (i + 1), _, by omega, at4 (i := 0) (j := 1) (k := 5) (l := 6) rfl rfl rfl (congrArg (fun z => AV.d (D.int .i64 z)) (nats_i64 (by omega))), i + 1, by omega, rfl, ?_⟩
      rw [st21, hc]
      rfl
    all_goals (obtain rfl := i7 hi (by assumption))
    all_goals simp only [xcnt_pop, errOf_ne] at *
    all_goals refine congrArg (fun z => AV.d (D.int .i64 z)) ?_
    all_goals unfold chgI
    all_goals generalize pop (msk a ^^^ msk b) = k at *
    all_goals generalize withinB a 1 127 = p at *
    all_goals generalize withinB b 1 127 = q at *
    all_goals (cases p <;> cases q <;> simp at * <;> omega)
  · cases h

end Go.Proofs.Ytnephacfnbcdeaa
