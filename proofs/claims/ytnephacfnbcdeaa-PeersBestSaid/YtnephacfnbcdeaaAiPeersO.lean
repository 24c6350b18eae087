/- What the document says of members: PeersTells; the best: PeersBest. -/
import Derived.Test.YtnephacfnbcdeaaAiPeersL
import Derived.Test.YtnephacfnbcdeaaAiPeersG
import Derived.Test.YtnephacfnbcdeaaAiPeersF
import Derived.Test.YtnephacfnbcdeaaAiPeersN
namespace Go.Proofs.Ytnephacfnbcdeaa
open Go Go.AI Go.Shelf
set_option linter.unusedVariables false

def S37 : List AV → Option AV
  | [.d (.sl r), .d (.sl q)] => if r.all isI64 = true ∧ q.all isI64 = true ∧ r.length < 1000000 then some (.d (.bool (decide (r.map AI.intOf = q.map AI.intOf)))) else none
  | _ => none

def st37 (r q : List Int) (i : Nat) : AS := ⟨[(0, .d (.sl (rowsZ r))), (1, .d (.sl (rowsZ q))), (12, .d (.int .i64 r.length)), (13, .d (.int .i64 i))], []⟩

theorem rowz_at {l : List Int} {i : Nat} (hi : i < l.length) : Side (0 ≤ (i : Int) ∧ (i : Int) < (rowsZ l).length ∧ (rowsZ l).getD (i : Int).toNat [] = [D.int .i64 l[i]]) := by
  refine ⟨by omega, by simp [rowsZ]; exact hi, ?_⟩
  simp [rowsZ, List.getD_eq_getElem?_getD, hi]

theorem at4' {σ : AS} {i j k l : Nat} {a b c d : AV} (h1 : σ.get i = a) (h2 : σ.get j = b) (h3 : σ.get k = c) (h4 : σ.get l = d) : Weak σ ⟨[(i, a), (j, b), (k, c), (l, d)], σ.objs⟩ :=
  Weak.at _ fun p hp => by
    simp only [List.mem_cons, List.not_mem_nil, or_false] at hp
    rcases hp with rfl | rfl | rfl | rfl
    · exact h1
    · exact h2
    · exact h3
    · exact h4

theorem wrap_nat {n : Nat} (h : n < 2000000) : IntKind.i64.wrap ((n : Int) + 1) = ((n + 1 : Nat) : Int) := wrapi_nat (n + 1) (by omega)

theorem S37_ok : SpecOk Try.prog 37 S37 := by
  refine spec_of T_ok (tbl0_ok _) mixed Try.func37 (by kernel_rfl) rfl (by kernel_rfl) ?_
  intro args res h
  unfold S37 at h
  split at h
  · rename_i r q
    split at h
    · rename_i hc
      obtain ⟨hr, hq, hl⟩ := hc
      cases h
      refine ⟨by simp [Try.f37], rfl, rfl, ?_⟩
      have hr := rowsZ_of hr
      have hq := rowsZ_of hq
      generalize r.map AI.intOf = l at hr ⊢
      generalize q.map AI.intOf = m at hq ⊢
      subst hr
      subst hq
      rw [rowsZ_length] at hl
      repeat' (first | ((conv => whnf); intro _ _) | ((conv => whnf); refine And.intro ?_ ?_ <;> intro h <;> cases h) | ((conv => whnf); refine And.intro (?_ : Side _) ?_) | fail)
      all_goals (conv => whnf)
      · rename_i hne
        have hne : ¬ l.length = m.length := by
          intro e
          rw [rowsZ_length, rowsZ_length, e] at hne
          simp at hne
        have : ¬ l = m := fun e => hne (by rw [e])
        rw [decide_eq_false this]
      · rename_i hne
        have hlm : l.length = m.length := by
          rw [rowsZ_length, rowsZ_length] at hne
          have := of_decide_eq_true (p := l.length = m.length) (by grind)
          exact this
        refine ⟨fun k σ => ∃ i, i ≤ l.length ∧ k = l.length - i ∧ σ = st37 l m i ∧ l.take i = m.take i, l.length, ⟨_, at4' (i := 0) (j := 1) (k := 12) (l := 13) rfl rfl (congrArg (fun n : Nat => AV.d (.int .i64 n)) (rowsZ_length l)) rfl, 0, by omega, rfl, rfl, rfl⟩, ?_⟩
        rintro k σ ⟨i, hi, rfl, rfl, ht⟩
        by_cases hil : i < l.length
        · have h1 := rowz_at hil
          have him : i < m.length := by omega
          have h2 := rowz_at him
          repeat' (first | ((conv => whnf); intro _ _) | ((conv => whnf); refine And.intro ?_ ?_ <;> intro h <;> cases h) | ((conv => whnf); refine ⟨_, And.intro h1 ?_⟩) | ((conv => whnf); refine ⟨_, And.intro h2 ?_⟩) | ((conv => whnf); refine And.intro (?_ : Side _) ?_) | fail)
          all_goals (conv => whnf)
          · rename_i h
            have hne : ¬ l = m := by
              intro e
              subst e
              simp at h
            rw [decide_eq_false hne]
          · rename_i h
            have he : l[i] = m[i] := by simpa using h
            refine ⟨l.length - (i + 1), _, by omega, at4' (i := 0) (j := 1) (k := 12) (l := 13) rfl rfl rfl (congrArg (fun z => AV.d (D.int .i64 z)) (wrap_nat (by omega))), i + 1, by omega, rfl, rfl, ?_⟩
            rw [List.take_succ_eq_append_getElem hil, List.take_succ_eq_append_getElem him, ht, he]
          · exfalso
            have := of_decide_eq_false (Eq.symm ‹false = decide ((i : Int) < (l.length : Nat))›)
            omega
        · repeat' (first | ((conv => whnf); intro _ _) | ((conv => whnf); refine And.intro ?_ ?_ <;> intro h <;> cases h) | ((conv => whnf); refine And.intro (?_ : Side _) ?_) | fail)
          all_goals (conv => whnf)
          · exfalso
            have := of_decide_eq_true (Eq.symm ‹true = decide ((i : Int) < (l.length : Nat))›)
            omega
          · have hi : i = l.length := by omega
            rw [hi, List.take_length, hlm, List.take_length] at ht
            rw [decide_eq_true ht]
    · cases h
  · cases h

def allI (n : Int) : Int := if n ≤ 0 then 0 else if n = 1 then 1 else if n = 2 then 3 else if n = 3 then 7 else if n = 4 then 15 else if n = 5 then 31 else if n = 6 then 63 else 127
def S35 : List AV → Option AV
  | [.d (.int .i64 n)] => some (.d (.int .i64 (allI n)))
  | _ => none

theorem S35_ok : SpecOk Try.prog 35 S35 := by
  refine spec_of T_ok (tbl0_ok _) mixed Try.func35 (by kernel_rfl) rfl (by kernel_rfl) ?_
  intro args res h
  unfold S35 at h
  split at h
  · rename_i n
    cases h
    refine ⟨by simp [Try.f35], rfl, rfl, ?_⟩
    obtain ⟨m, hm, he, ha⟩ : ∃ m : Nat, m ≤ 7 ∧ (if 7 < (if 0 > n then 0 else n) then (7 : Int) else if 0 > n then 0 else n) = (m : Int) ∧ allI n = 2 ^ m - 1 := by
      unfold allI
      by_cases h0 : n ≤ 0
      · exact ⟨0, by omega, by omega, by rw [if_pos h0]; rfl⟩
      · by_cases h7 : 7 ≤ n
        · refine ⟨7, by omega, by omega, ?_⟩
          rw [if_neg h0, if_neg (by omega), if_neg (by omega), if_neg (by omega), if_neg (by omega), if_neg (by omega), if_neg (by omega)]
          rfl
        · have : n = 1 ∨ n = 2 ∨ n = 3 ∨ n = 4 ∨ n = 5 ∨ n = 6 := by omega
          rcases this with rfl | rfl | rfl | rfl | rfl | rfl
          · exact ⟨1, by omega, rfl, rfl⟩
          · exact ⟨2, by omega, rfl, rfl⟩
          · exact ⟨3, by omega, rfl, rfl⟩
          · exact ⟨4, by omega, rfl, rfl⟩
          · exact ⟨5, by omega, rfl, rfl⟩
          · exact ⟨6, by omega, rfl, rfl⟩
    conv => whnf
    rw [he, ha]
    conv => whnf
    refine congrArg (fun z => AV.d (D.int .i64 z)) ?_
    clear he ha
    revert m
    decide
  · cases h

def S51 : List AV → Option AV
  | [.d (.int .i64 c), .d (.int .i64 i)] => if (c = 0 ∧ i = 0) ∨ (c = 1 ∧ i = 1) ∨ (c = 3 ∧ i = 2) ∨ (c = 7 ∧ i = 3) ∨ (c = 15 ∧ i = 4) ∨ (c = 31 ∧ i = 5) ∨ (c = 63 ∧ i = 6) then some (.d (.int .i64 (2 * c + 1))) else none
  | _ => none

theorem S51_ok : SpecOk Try.prog 51 S51 := by
  refine spec_of T_ok (tblAdd_ok S49_ok (tbl0_ok _)) mixed Try.func51 (by kernel_rfl) rfl (by kernel_rfl) ?_
  intro args res h
  unfold S51 at h
  split at h
  · rename_i c i
    split at h
    · rename_i hc
      cases h
      refine ⟨by simp [Try.f51], rfl, rfl, ?_⟩
      rcases hc with ⟨rfl, rfl⟩ | ⟨rfl, rfl⟩ | ⟨rfl, rfl⟩ | ⟨rfl, rfl⟩ | ⟨rfl, rfl⟩ | ⟨rfl, rfl⟩ | ⟨rfl, rfl⟩
      all_goals repeat' (first | ((conv => whnf); intro _ _) | ((conv => whnf); refine And.intro ?_ ?_ <;> intro h <;> cases h) | ((conv => whnf); refine And.intro (?_ : Side _) ?_) | fail)
      all_goals (conv => whnf)
      all_goals first
        | rfl
        | (exfalso; rename_i h; revert h; decide)
    · cases h
  · cases h

def allU : Nat → Int
  | 0 => 0
  | i + 1 => 2 * allU i + 1
def st36 (n : Int) (i : Nat) : AS := ⟨[(0, .d (.int .i64 n)), (3, .d (.int .i64 (allU i))), (4, .d (.int .i64 i))], []⟩

theorem all_end (i : Nat) (n : Int) (hi : i ≤ 7) (h0 : i = 0 ∨ (i : Int) ≤ n) (h : ¬ (i : Int) < 7 ∨ ¬ (i : Int) < n) : allU i = allI n := by
  have h8 : i = 0 ∨ i = 1 ∨ i = 2 ∨ i = 3 ∨ i = 4 ∨ i = 5 ∨ i = 6 ∨ i = 7 := by omega
  unfold allI
  rcases h8 with rfl | rfl | rfl | rfl | rfl | rfl | rfl | rfl <;> simp only [allU] <;> (repeat' split) <;> omega

theorem S36_ok : SpecOk Try.prog 36 S35 := by
  refine spec_of T_ok (tblAdd_ok S51_ok (tbl0_ok _)) mixed Try.func36 (by kernel_rfl) rfl (by kernel_rfl) ?_
  intro args res h
  unfold S35 at h
  split at h
  · rename_i n
    cases h
    refine ⟨by simp [Try.f36], rfl, rfl, ?_⟩
    conv => whnf
    refine ⟨fun k σ => ∃ i : Nat, i ≤ 7 ∧ k = 7 - i ∧ σ = st36 n i ∧ (i = 0 ∨ (i : Int) ≤ n), 7, ⟨_, at3 (i := 0) (j := 3) (k := 4) rfl rfl rfl, 0, by omega, rfl, rfl, .inl rfl⟩, ?_⟩
    rintro k σ ⟨i, hi, rfl, rfl, hin⟩
    have hi8 : i = 0 ∨ i = 1 ∨ i = 2 ∨ i = 3 ∨ i = 4 ∨ i = 5 ∨ i = 6 ∨ i = 7 := by omega
    rcases hi8 with rfl | rfl | rfl | rfl | rfl | rfl | rfl | rfl
    all_goals repeat' (first | ((conv => whnf); intro _ _) | ((conv => whnf); refine And.intro ?_ ?_ <;> intro h <;> cases h) | ((conv => whnf); refine And.intro (?_ : Side _) ?_) | fail)
    all_goals (conv => whnf)
    all_goals first
      | exact ⟨7 - (0 + 1), _, by omega, at3 (i := 0) (j := 3) (k := 4) rfl rfl (congrArg (fun z => AV.d (D.int .i64 z)) (nats_i64 (n := 0) (by omega))), 0 + 1, by omega, rfl, rfl, .inr (by have := of_decide_eq_true (Eq.symm ‹true = decide (((0 : Nat) : Int) < n)›); omega)⟩
      | exact congrArg (fun z => AV.d (D.int .i64 z)) (all_end 0 n (by omega) hin (by first | (left; exact of_decide_eq_false (Eq.symm ‹false = decide (((0 : Nat) : Int) < 7)›)) | (right; exact of_decide_eq_false (Eq.symm ‹false = decide (((0 : Nat) : Int) < n)›))))
      | exact ⟨7 - (1 + 1), _, by omega, at3 (i := 0) (j := 3) (k := 4) rfl rfl (congrArg (fun z => AV.d (D.int .i64 z)) (nats_i64 (n := 1) (by omega))), 1 + 1, by omega, rfl, rfl, .inr (by have := of_decide_eq_true (Eq.symm ‹true = decide (((1 : Nat) : Int) < n)›); omega)⟩
      | exact congrArg (fun z => AV.d (D.int .i64 z)) (all_end 1 n (by omega) hin (by first | (left; exact of_decide_eq_false (Eq.symm ‹false = decide (((1 : Nat) : Int) < 7)›)) | (right; exact of_decide_eq_false (Eq.symm ‹false = decide (((1 : Nat) : Int) < n)›))))
      | exact ⟨7 - (2 + 1), _, by omega, at3 (i := 0) (j := 3) (k := 4) rfl rfl (congrArg (fun z => AV.d (D.int .i64 z)) (nats_i64 (n := 2) (by omega))), 2 + 1, by omega, rfl, rfl, .inr (by have := of_decide_eq_true (Eq.symm ‹true = decide (((2 : Nat) : Int) < n)›); omega)⟩
      | exact congrArg (fun z => AV.d (D.int .i64 z)) (all_end 2 n (by omega) hin (by first | (left; exact of_decide_eq_false (Eq.symm ‹false = decide (((2 : Nat) : Int) < 7)›)) | (right; exact of_decide_eq_false (Eq.symm ‹false = decide (((2 : Nat) : Int) < n)›))))
      | exact ⟨7 - (3 + 1), _, by omega, at3 (i := 0) (j := 3) (k := 4) rfl rfl (congrArg (fun z => AV.d (D.int .i64 z)) (nats_i64 (n := 3) (by omega))), 3 + 1, by omega, rfl, rfl, .inr (by have := of_decide_eq_true (Eq.symm ‹true = decide (((3 : Nat) : Int) < n)›); omega)⟩
      | exact congrArg (fun z => AV.d (D.int .i64 z)) (all_end 3 n (by omega) hin (by first | (left; exact of_decide_eq_false (Eq.symm ‹false = decide (((3 : Nat) : Int) < 7)›)) | (right; exact of_decide_eq_false (Eq.symm ‹false = decide (((3 : Nat) : Int) < n)›))))
      | exact ⟨7 - (4 + 1), _, by omega, at3 (i := 0) (j := 3) (k := 4) rfl rfl (congrArg (fun z => AV.d (D.int .i64 z)) (nats_i64 (n := 4) (by omega))), 4 + 1, by omega, rfl, rfl, .inr (by have := of_decide_eq_true (Eq.symm ‹true = decide (((4 : Nat) : Int) < n)›); omega)⟩
      | exact congrArg (fun z => AV.d (D.int .i64 z)) (all_end 4 n (by omega) hin (by first | (left; exact of_decide_eq_false (Eq.symm ‹false = decide (((4 : Nat) : Int) < 7)›)) | (right; exact of_decide_eq_false (Eq.symm ‹false = decide (((4 : Nat) : Int) < n)›))))
      | exact ⟨7 - (5 + 1), _, by omega, at3 (i := 0) (j := 3) (k := 4) rfl rfl (congrArg (fun z => AV.d (D.int .i64 z)) (nats_i64 (n := 5) (by omega))), 5 + 1, by omega, rfl, rfl, .inr (by have := of_decide_eq_true (Eq.symm ‹true = decide (((5 : Nat) : Int) < n)›); omega)⟩
      | exact congrArg (fun z => AV.d (D.int .i64 z)) (all_end 5 n (by omega) hin (by first | (left; exact of_decide_eq_false (Eq.symm ‹false = decide (((5 : Nat) : Int) < 7)›)) | (right; exact of_decide_eq_false (Eq.symm ‹false = decide (((5 : Nat) : Int) < n)›))))
      | exact ⟨7 - (6 + 1), _, by omega, at3 (i := 0) (j := 3) (k := 4) rfl rfl (congrArg (fun z => AV.d (D.int .i64 z)) (nats_i64 (n := 6) (by omega))), 6 + 1, by omega, rfl, rfl, .inr (by have := of_decide_eq_true (Eq.symm ‹true = decide (((6 : Nat) : Int) < n)›); omega)⟩
      | exact congrArg (fun z => AV.d (D.int .i64 z)) (all_end 6 n (by omega) hin (by first | (left; exact of_decide_eq_false (Eq.symm ‹false = decide (((6 : Nat) : Int) < 7)›)) | (right; exact of_decide_eq_false (Eq.symm ‹false = decide (((6 : Nat) : Int) < n)›))))
      | exact ⟨7 - (7 + 1), _, by omega, at3 (i := 0) (j := 3) (k := 4) rfl rfl (congrArg (fun z => AV.d (D.int .i64 z)) (nats_i64 (n := 7) (by omega))), 7 + 1, by omega, rfl, rfl, .inr (by have := of_decide_eq_true (Eq.symm ‹true = decide (((7 : Nat) : Int) < n)›); omega)⟩
      | exact congrArg (fun z => AV.d (D.int .i64 z)) (all_end 7 n (by omega) hin (by first | (left; exact of_decide_eq_false (Eq.symm ‹false = decide (((7 : Nat) : Int) < 7)›)) | (right; exact of_decide_eq_false (Eq.symm ‹false = decide (((7 : Nat) : Int) < n)›))))
      | (exfalso; have := of_decide_eq_true (Eq.symm ‹true = decide (((7 : Nat) : Int) < 7)›); omega)
  · cases h

end Go.Proofs.Ytnephacfnbcdeaa
