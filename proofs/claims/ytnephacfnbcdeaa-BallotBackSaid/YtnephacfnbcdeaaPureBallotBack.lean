/- Where entries are sent again lies from 1 to 2^31 + 1, behind what a node has, and ahead of what was sent, where something is ahead; no conditions. -/
import Derived.Test.YtnephacfnbcdeaaPBallotBackx1
namespace Go.Proofs.Ytnephacfnbcdeaa.Pure
open Go.RowKit Go.Proofs.Ytnephacfnbcdeaa.PBallotBack Go.Proofs.YtnephacfnbcdeaaW.PrintWords Go.Proofs.YtnephacfnbcdeaaW.PrintLast

theorem back_awake : baileylaw15_awake.f = some true := by
  simp [baileylaw15_awake.f, ballot_Fresh.f, ballot_Vote.f, ballot_Timeout.f, nums_Within.f, wrap64]

def hld (a : Int) : Int := min (max a 0) 2147483648

theorem back_held (a : Int) : ballot_held.f a = some (hld a) := by
  unfold ballot_held.f hld mx mn
  congr 1
  omega

theorem back_val (a b c : Int) : ballot_Back.f a b c = some (max (hld b + 1) (min (hld c + 1) (max (hld a - 1) 1))) := by
  unfold ballot_Back.f
  rw [back_held, back_held, back_held]
  simp only [Option.bind_some]
  congr 1
  have w1 : wrap64 (hld b + 1) = hld b + 1 := by unfold wrap64 hld; omega
  have w2 : wrap64 (hld c + 1) = hld c + 1 := by unfold wrap64 hld; omega
  have w3 : wrap64 (hld a - 1) = hld a - 1 := by unfold wrap64 hld; omega
  rw [w1, w2, w3]
  unfold mx mn
  omega

theorem back_j0 (a b n : Int) (h : 2 ≤ a → a ≤ 2147483648 → 0 ≤ b → b < a - 1 → n ≤ a - 1) : baileylaw15_BallotBack.j0 1 a b n false = some true := by
  simp only [baileylaw15_BallotBack.j0]
  rw [back_awake]
  rw [if_neg (by simp)]
  simp only [Option.bind_some]
  by_cases h1 : 2 ≤ a
  · rw [if_pos h1]
    by_cases h2 : a ≤ 2147483648
    · rw [if_pos h2]
      have w : wrap64 (a - 1) = a - 1 := by unfold wrap64; omega
      rw [w]
      by_cases h3 : 0 ≤ b
      · rw [if_pos h3]
        by_cases h4 : b < a - 1
        · rw [if_pos h4, if_neg (by have := h h1 h2 h3 h4; omega)]
        · rw [if_neg h4]
      · rw [if_neg h3]
    · rw [if_neg h2]
  · rw [if_neg h1]

theorem BallotBack : baileylaw15_BallotBack.Pure := by
  intro a b c _ _ _
  refine ⟨1, ?_⟩
  unfold baileylaw15_BallotBack.f
  rw [back_val]
  simp only [Option.bind_some]
  rw [if_neg (by unfold hld; omega), if_neg (by unfold hld; omega)]
  have key : 2 ≤ a → a ≤ 2147483648 → 0 ≤ b → b < a - 1 → max (hld b + 1) (min (hld c + 1) (max (hld a - 1) 1)) ≤ a - 1 := by
    unfold hld; omega
  by_cases h3 : 0 ≤ b
  · rw [if_pos h3]
    by_cases h4 : b ≤ 2147483648
    · rw [if_pos h4]
      have w : wrap64 (b + 1) = b + 1 := by unfold wrap64; omega
      rw [w]
      have hd : decide (max (hld b + 1) (min (hld c + 1) (max (hld a - 1) 1)) < b + 1) = false := by
        rw [decide_eq_false_iff_not]; unfold hld; omega
      rw [hd]
      exact back_j0 a b _ key
    · rw [if_neg h4]
      exact back_j0 a b _ key
  · rw [if_neg h3]
    exact back_j0 a b _ key

end Go.Proofs.Ytnephacfnbcdeaa.Pure
