/- Contracts of the reference's functions on members: loops. -/
import Derived.Test.YtnephacfnbcdeaaAiPeersB
import Derived.Test.YtnephacfnbcdeaaAiQ
namespace Go.Proofs.Ytnephacfnbcdeaa
open Go Go.AI

theorem nats_i64 {n : Nat} (h : n < 1000) : IntKind.i64.wrap ((n : Int) + 1) = ((n + 1 : Nat) : Int) := wrapi_nat (n + 1) (by omega)

/-- The members below i. -/
def upTo (m : Nat) : Nat → List Nat
  | 0 => []
  | i + 1 => if m.testBit i then upTo m i ++ [i] else upTo m i
def rowsN (l : List Nat) : List (List D) := l.map fun (n : Nat) => [D.int .i64 (n : Int)]
def st38 (c : Int) (i : Nat) : AS :=
  match upTo (msk c) i with
  | [] => ⟨[(0, .d (.int .i64 c)), (3, .nils), (4, .d (.int .i64 i))], []⟩
  | x :: l => ⟨[(0, .d (.int .i64 c)), (3, .win 0 0 (l.length + 1) l.length), (4, .d (.int .i64 i))], [.arr (rowsN (x :: l)) 1 l.length]⟩

theorem upTo_length (m i : Nat) : (upTo m i).length ≤ i := by
  induction i with
  | zero => simp [upTo]
  | succ i ih =>
    simp only [upTo]
    split
    · simp; omega
    · omega

theorem hasB_nat (c : Int) {i : Nat} (h : i < 7) : hasB c i = (msk c).testBit i := by
  have h1 : decide (0 ≤ (i : Int)) = true := by simp
  have h2 : decide ((i : Int) ≤ 6) = true := by simp; omega
  simp only [hasB, h1, h2, Bool.true_and, Int.toNat_natCast]

theorem at3 {σ : AS} {i j k : Nat} {a b c : AV} (h1 : σ.get i = a) (h2 : σ.get j = b) (h3 : σ.get k = c) : Weak σ ⟨[(i, a), (j, b), (k, c)], σ.objs⟩ :=
  Weak.at _ fun p hp => by
    simp only [List.mem_cons, List.not_mem_nil, or_false] at hp
    rcases hp with rfl | rfl | rfl
    · exact h1
    · exact h2
    · exact h3

def S38 : List AV → Option AV
  | [.d (.int .i64 c)] => some (.d (.sl (rowsN (upTo (msk c) 7))))
  | _ => none

theorem S38_ok : SpecOk Try.prog 38 S38 := by
  refine specF_of T_ok (tblAdd_ok S31_ok (tbl0_ok _)) mixed Try.func38 (by kernel_rfl) rfl (by kernel_rfl) ?_
  intro args r h
  unfold S38 at h
  split at h
  · rename_i c
    cases h
    refine ⟨by simp [Try.f38], rfl, rfl, ?_⟩
    conv => whnf
    refine ⟨fun k σ => ∃ i, i ≤ 7 ∧ k = 7 - i ∧ σ = st38 c i, 7, ⟨_, at3 (i := 0) (j := 3) (k := 4) rfl rfl rfl, 0, by omega, rfl, rfl⟩, ?_⟩
    rintro k σ ⟨i, hi, rfl, hσ⟩
    have hlen := upTo_length (msk c) i
    cases hL : upTo (msk c) i with
    | nil =>
      rw [st38, hL] at hσ
      subst hσ
      repeat' (first | ((conv => whnf); intro _ _) | ((conv => whnf); refine And.intro ?_ ?_ <;> intro h <;> cases h) | ((conv => whnf); refine And.intro (?_ : Side _) ?_) | ((conv => whnf); refine Or.inl ?_) | fail)
      all_goals (conv => whnf)
      · exact ⟨by simp [ty3]⟩
      · rename_i h7 hb
        have hi7 : i < 7 := by have := of_decide_eq_true h7.symm; omega
        rw [hasB_nat c hi7] at hb
        have hn : upTo (msk c) (i + 1) = [i] := by simp [upTo, ← hb, hL]
        refine ⟨7 - (i + 1), _, by omega, at3 (i := 0) (j := 3) (k := 4) rfl rfl (congrArg (fun z => AV.d (D.int .i64 z)) (nats_i64 (by omega))), i + 1, by omega, rfl, ?_⟩
        rw [st38, hn]
        rfl
      · rename_i h7 hb
        have hi7 : i < 7 := by have := of_decide_eq_true h7.symm; omega
        rw [hasB_nat c hi7] at hb
        have hn : upTo (msk c) (i + 1) = [] := by simp [upTo, ← hb, hL]
        refine ⟨7 - (i + 1), _, by omega, at3 (i := 0) (j := 3) (k := 4) rfl rfl (congrArg (fun z => AV.d (D.int .i64 z)) (nats_i64 (by omega))), i + 1, by omega, rfl, ?_⟩
        rw [st38, hn]
        rfl
      · rename_i h7
        have hi7 : ¬ (i : Int) < 7 := of_decide_eq_false h7.symm
        have : i = 7 := by omega
        subst this
        rw [hL]
        rfl
    | cons x l =>
      rw [hL] at hlen
      rw [st38, hL] at hσ
      subst hσ
      have hlen' : l.length + 1 ≤ 7 := by simp at hlen; omega
      repeat' (first | ((conv => whnf); intro _ _) | ((conv => whnf); refine And.intro ?_ ?_ <;> intro h <;> cases h) | ((conv => whnf); refine And.intro (?_ : Side _) ?_) | ((conv => whnf); refine Or.inl ?_) | fail)
      all_goals (conv => whnf)
      · exact ⟨by simp [rowsN, ty3]; omega⟩
      · rename_i h7 hb
        have hi7 : i < 7 := by have := of_decide_eq_true h7.symm; omega
        rw [hasB_nat c hi7] at hb
        have hn : upTo (msk c) (i + 1) = x :: (l ++ [i]) := by simp [upTo, ← hb, hL]
        refine ⟨7 - (i + 1), _, by omega, at3 (i := 0) (j := 3) (k := 4) rfl rfl (congrArg (fun z => AV.d (D.int .i64 z)) (nats_i64 (by omega))), i + 1, by omega, rfl, ?_⟩
        rw [st38, hn]
        simp [rowsN, AS.get, AI.look]
      · rename_i h7 hb
        have hi7 : i < 7 := by have := of_decide_eq_true h7.symm; omega
        rw [hasB_nat c hi7] at hb
        have hn : upTo (msk c) (i + 1) = x :: l := by simp [upTo, ← hb, hL]
        refine ⟨7 - (i + 1), _, by omega, at3 (i := 0) (j := 3) (k := 4) rfl rfl (congrArg (fun z => AV.d (D.int .i64 z)) (nats_i64 (by omega))), i + 1, by omega, rfl, ?_⟩
        rw [st38, hn]
        rfl
      · rename_i h7
        have hi7 : ¬ (i : Int) < 7 := of_decide_eq_false h7.symm
        have : i = 7 := by omega
        subst this
        rw [hL]
        simp [frz, frz1, rowsN]
        exact List.take_of_length_le (by simp)
  · cases h
end Go.Proofs.Ytnephacfnbcdeaa
