/- Two that are enough meet: the law PeersMeet. -/
import Derived.Test.YtnephacfnbcdeaaAiPeersL
import Derived.Test.YtnephacfnbcdeaaAiPeersG
namespace Go.Proofs.Ytnephacfnbcdeaa
open Go Go.AI Go.Shelf
set_option linter.unusedVariables false

theorem bit_law (o c a b : Bool) (h : ¬ (a = true ∧ b = true)) : 2 * ((o && a).toNat + (c && b).toNat) ≤ o.toNat + c.toNat + (o != c).toNat := by
  revert h; revert o c a b; decide

theorem meet_law {mo mc ma mb : Nat} (h1 : pop mo / 2 < pop (mo &&& ma)) (h2 : pop mc / 2 < pop (mc &&& mb)) (hd : pop (mo ^^^ mc) ≤ 1) (hn : ∀ j, j < 7 → ¬ (ma.testBit j = true ∧ mb.testBit j = true)) : False := by
  have k0 := bit_law (mo.testBit 0) (mc.testBit 0) _ _ (hn 0 (by omega))
  have k1 := bit_law (mo.testBit 1) (mc.testBit 1) _ _ (hn 1 (by omega))
  have k2 := bit_law (mo.testBit 2) (mc.testBit 2) _ _ (hn 2 (by omega))
  have k3 := bit_law (mo.testBit 3) (mc.testBit 3) _ _ (hn 3 (by omega))
  have k4 := bit_law (mo.testBit 4) (mc.testBit 4) _ _ (hn 4 (by omega))
  have k5 := bit_law (mo.testBit 5) (mc.testBit 5) _ _ (hn 5 (by omega))
  have k6 := bit_law (mo.testBit 6) (mc.testBit 6) _ _ (hn 6 (by omega))
  simp only [pop, Nat.testBit_and, Nat.testBit_xor] at h1 h2 hd
  have e : ∀ x y : Bool, (x ^^ y) = (x != y) := fun x y => by cases x <;> cases y <;> rfl
  simp only [e] at hd
  omega

theorem meet {old conf a b : Int} (h1 : quoB old a = true) (h2 : quoB conf b = true) (hc : conf = old ∨ chgI old conf = 0) (hn : ∀ j, j < 7 → ¬ ((msk a).testBit j = true ∧ (msk b).testBit j = true)) : False := by
  simp only [quoB, Bool.and_eq_true, decide_eq_true_eq] at h1 h2
  refine meet_law h1.2 h2.2 ?_ hn
  rcases hc with rfl | hc
  · rw [Nat.xor_self]; decide
  · unfold chgI at hc
    split at hc
    · rename_i h; omega
    · cases hc

def S8 : List AV → Option AV
  | [.d (.int .i64 old), .d (.int .i64 conf), .d (.int .i64 a), .d (.int .i64 b)] => some (.d (.bool true))
  | _ => none

def st8 (a b : Int) (i : Nat) : AS := ⟨[(2, .d (.int .i64 a)), (3, .d (.int .i64 b)), (44, .d (.int .i64 i))], []⟩

theorem S8_ok : SpecOk Try.prog 8 S8 := by
  refine spec_of T_ok (tblAdd_ok S20_ok (tblAdd_ok S21_ok (tblAdd_ok S22_ok (tblAdd_ok S23_ok (tblAdd_ok S24_ok (tblAdd_ok S19_ok (tbl0_ok _))))))) mixed Try.func8 (by kernel_rfl) rfl (by kernel_rfl) ?_
  intro args r h
  unfold S8 at h
  split at h
  · rename_i old conf a b
    cases h
    refine ⟨by simp [Try.f8], rfl, rfl, ?_⟩
    repeat' (first | ((conv => whnf); intro _ _) | ((conv => whnf); refine And.intro ?_ ?_ <;> intro h <;> cases h) | ((conv => whnf); refine And.intro (?_ : Side _) ?_) | fail)
    all_goals (conv => whnf)
    all_goals first
      | (rename_i h; rw [h]; done)
      | (exfalso; rename_i h; revert h; simp; done)
      | skip
    all_goals
      have hq1 : quoB old a = true := by grind
      have hq2 : quoB conf b = true := by grind
      have hcc : conf = old ∨ chgI old conf = 0 := by grind
    all_goals
      refine ⟨fun k σ => ∃ i : Nat, i ≤ 7 ∧ k = 7 - i ∧ σ = st8 a b i ∧ ∀ j, j < i → ¬ ((msk a).testBit j = true ∧ (msk b).testBit j = true), 7, ⟨_, at3 (i := 2) (j := 3) (k := 44) rfl rfl rfl, 0, by omega, rfl, rfl, by omega⟩, ?_⟩
      rintro k σ ⟨i, hi, rfl, rfl, hj⟩
      repeat' (first | ((conv => whnf); intro _ _) | ((conv => whnf); refine And.intro ?_ ?_ <;> intro h <;> cases h) | ((conv => whnf); refine And.intro (?_ : Side _) ?_) | fail)
    all_goals (conv => whnf)
    all_goals first
      | (rename_i h; rw [h]; done)
      | (exfalso
         have h7 := of_decide_eq_false (Eq.symm ‹false = decide ((i : Int) < 7)›)
         exact meet hq1 hq2 hcc fun j hj7 => hj j (by omega))
      | (have h7 := of_decide_eq_true (Eq.symm ‹true = decide ((i : Int) < 7)›)
         have hi7 : i < 7 := by omega
         have ha := hasB_nat a hi7
         have hb := hasB_nat b hi7
         have hn : ¬ ((msk a).testBit i = true ∧ (msk b).testBit i = true) := by grind
         refine ⟨7 - (i + 1), _, by omega, at3 (i := 2) (j := 3) (k := 44) rfl rfl (congrArg (fun z => AV.d (D.int .i64 z)) (nats_i64 (by omega))), i + 1, by omega, rfl, rfl, fun j hj1 => ?_⟩
         by_cases hji : j = i
         · rw [hji]; exact hn
         · exact hj j (by omega))
  · cases h
end Go.Proofs.Ytnephacfnbcdeaa
