/- The plain law: whether some are enough. -/
import Derived.Test.YtnephacfnbcdeaaAiPeersE
namespace Go.Proofs.Ytnephacfnbcdeaa
open Go Go.AI

theorem cnt_upTo (a : Nat) (y : Int) : ∀ i, i ≤ 7 → cntY y (upTo a (i)) = ((List.range i).map fun j => (a.testBit j && (msk y).testBit j).toNat).sum := by
  intro i
  induction i with
  | zero => intro _; rfl
  | succ i ih =>
    intro hi
    rw [List.range_succ, List.map_append, List.sum_append, ← ih (by omega)]
    simp only [upTo, List.map_cons, List.map_nil, List.sum_cons, List.sum_nil]
    by_cases ha : a.testBit i = true
    · rw [if_pos ha, cntY_append]
      simp only [cntY, ha, Bool.true_and, hasB_nat y (show i < 7 by omega)]
    · rw [if_neg ha]
      simp [Bool.not_eq_true _ ▸ ha]

theorem cnt_pop (a : Nat) (y : Int) : cntY y (upTo a 7) = pop (a &&& msk y) := by
  rw [cnt_upTo a y 7 (Nat.le_refl _)]
  simp only [pop, Nat.testBit_and, show List.range 7 = [0, 1, 2, 3, 4, 5, 6] from rfl, List.map_cons, List.map_nil, List.sum_cons, List.sum_nil]
  omega

theorem quo_ref (c y : Int) : quoB c y = refQ c y := by
  unfold quoB refQ
  rw [cnt_pop, upTo_pop]
  generalize pop (msk c &&& msk y) = k
  generalize pop (msk c) = m
  by_cases h : 0 < k
  · rw [decide_eq_true h, Bool.true_and]
    exact decide_eq_decide.2 (by omega)
  · rw [decide_eq_false h, Bool.false_and]
    exact (decide_eq_false (by omega)).symm

end Go.Proofs.Ytnephacfnbcdeaa
