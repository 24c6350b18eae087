/- PlaceOrders answers true. -/
import Derived.Test.YtejejeginfjnjaaAiPlaceU
namespace Go.Proofs.Ytejejeginfjnjaa
open Go Go.AI Go.Shelf
set_option linter.unusedVariables false

theorem s7_same (A : List Nat) (h : A.length < 1000000000) : S7 [.d (.sl (intsD A)), .d (.sl (intsD A))] = some (.d (.bool true)) := by
  simp only [S7]
  rw [if_pos ⟨⟨intsD_all _, intsD_all _⟩, by rw [intsD_length]; exact h⟩]
  simp

theorem facts3 (s : List UInt8) (n v : Int) (hs : s.length < 549755813888) : ∃ (A B C : List Nat) (b : Bool),
    S8 [.d (.str s), .d (.int .i64 n)] = some (.d (.sl (intsD A))) ∧ S9 [.d (.str s), .d (.int .i64 n)] = some (.d (.sl (intsD A))) ∧
    S10 [.d (.str s), .d (.int .i64 n)] = some (.d (.sl (intsD B))) ∧ S11 [.d (.str s), .d (.int .i64 n)] = some (.d (.sl (intsD B))) ∧
    S12 [.d (.str s), .d (.int .i64 n), .d (.int .i64 v)] = some (.d (.bool b)) ∧ S13 [.d (.str s), .d (.int .i64 n), .d (.int .i64 v)] = some (.d (.bool b)) ∧
    S14 [.d (.str s), .d (.int .i64 n), .d (.int .i64 v)] = some (.d (.sl (intsD C))) ∧ S15 [.d (.str s), .d (.int .i64 n), .d (.int .i64 v)] = some (.d (.sl (intsD C))) ∧
    S7 [.d (.sl (intsD A)), .d (.sl (intsD A))] = some (.d (.bool true)) ∧ S7 [.d (.sl (intsD B)), .d (.sl (intsD B))] = some (.d (.bool true)) ∧ S7 [.d (.sl (intsD C)), .d (.sl (intsD C))] = some (.d (.bool true)) := by
  have h1 := nodesI_length s n
  refine ⟨ordI s n, nodesI s n, othersI s n v, hasI s n v, ?_, ?_, ?_, ?_, ?_, ?_, ?_, ?_, s7_same _ ?_, s7_same _ (by omega), s7_same _ ?_⟩
  · simp only [S8]
    rw [if_pos hs, ordI_nodes]
  · simp only [S9]
    rw [if_pos hs]
    rfl
  · simp only [S10]
    rw [if_pos hs]
    rfl
  · simp only [S11]
    rw [if_pos hs]
    rfl
  · simp only [S12]
    rw [if_pos hs]
  · simp only [S13]
    rw [if_pos hs, has_eq]
  · simp only [S14]
    rw [if_pos hs]
  · simp only [S15]
    rw [if_pos hs]
  · rw [ordI_length]
    have := clamp7_le n
    omega
  · have : (othersI s n v).length ≤ (nodesI s n).length := List.length_filter_le _ _
    omega

structure F3 where
  f6 : List AV → Option AV
  f7 : List AV → Option AV
  f8 : List AV → Option AV
  f9 : List AV → Option AV
  f10 : List AV → Option AV
  f11 : List AV → Option AV
  f12 : List AV → Option AV
  f13 : List AV → Option AV
  f14 : List AV → Option AV
  f15 : List AV → Option AV
def F3.tbl (f : F3) : Tbl := tblAdd 6 f.f6 (tblAdd 7 f.f7 (tblAdd 8 f.f8 (tblAdd 9 f.f9 (tblAdd 10 f.f10 (tblAdd 11 f.f11 (tblAdd 12 f.f12 (tblAdd 13 f.f13 (tblAdd 14 f.f14 (tblAdd 15 f.f15 tbl0)))))))))

noncomputable def a3 : Code := match Try.f3.body with | some (.seq a _) => a | _ => .skip
noncomputable def c3 : Code := match Try.f3.body with | some (.seq _ (.seq a _)) => a | _ => .skip
noncomputable def b3 : Code := match Try.f3.body with | some (.seq _ (.seq _ (.seq a _))) => a | _ => .skip
theorem body3 : Try.f3.body = some (.seq a3 (.seq c3 (.seq b3 .ret))) := rfl
theorem a3_ok (f : F3) : codeOk f.tbl Try.f3.ntmps a3 = true := by kernel_rfl
theorem c3_ok (f : F3) : codeOk f.tbl Try.f3.ntmps c3 = true := by kernel_rfl
theorem b3_ok (f : F3) : codeOk f.tbl Try.f3.ntmps b3 = true := by kernel_rfl

theorem walk3 (f : F3) (s : List UInt8) (n v : Int) (A B C : List Nat) (b : Bool) (e6 : f.f6 [] = some (.d (.bool true)))
    (e8 : f.f8 [.d (.str s), .d (.int .i64 n)] = some (.d (.sl (intsD A)))) (e9 : f.f9 [.d (.str s), .d (.int .i64 n)] = some (.d (.sl (intsD A))))
    (e10 : f.f10 [.d (.str s), .d (.int .i64 n)] = some (.d (.sl (intsD B)))) (e11 : f.f11 [.d (.str s), .d (.int .i64 n)] = some (.d (.sl (intsD B))))
    (e12 : f.f12 [.d (.str s), .d (.int .i64 n), .d (.int .i64 v)] = some (.d (.bool b))) (e13 : f.f13 [.d (.str s), .d (.int .i64 n), .d (.int .i64 v)] = some (.d (.bool b)))
    (e14 : f.f14 [.d (.str s), .d (.int .i64 n), .d (.int .i64 v)] = some (.d (.sl (intsD C)))) (e15 : f.f15 [.d (.str s), .d (.int .i64 n), .d (.int .i64 v)] = some (.d (.sl (intsD C))))
    (e7a : f.f7 [.d (.sl (intsD A)), .d (.sl (intsD A))] = some (.d (.bool true))) (e7b : f.f7 [.d (.sl (intsD B)), .d (.sl (intsD B))] = some (.d (.bool true))) (e7c : f.f7 [.d (.sl (intsD C)), .d (.sl (intsD C))] = some (.d (.bool true)))
    (Q : Exit → AS → Prop) (hQ : ∀ σ, σ.get 6 = .d (.bool true) → Q .normal σ) : rwp T f.tbl (strip f.tbl b3) Q ⟨[(0, .d (.str s)), (1, .d (.int .i64 n)), (2, .d (.int .i64 v))], []⟩ := by
  repeat' (first | ((conv => whnf); intro _ _) | ((conv => whnf); refine And.intro ?_ ?_ <;> intro h <;> cases h) | ((conv => whnf); refine And.intro (?_ : Side _) ?_) | ((conv => whnf); generalize hX : Tbl.c _ _ _ = X; first | (cases (hX.symm.trans e8 : X = some _)) | (cases (hX.symm.trans e9 : X = some _)) | (cases (hX.symm.trans e7a : X = some _)) | (cases (hX.symm.trans e10 : X = some _)) | (cases (hX.symm.trans e11 : X = some _)) | (cases (hX.symm.trans e7b : X = some _)) | (cases (hX.symm.trans e12 : X = some _)) | (cases (hX.symm.trans e13 : X = some _)) | (cases (hX.symm.trans e14 : X = some _)) | (cases (hX.symm.trans e15 : X = some _)) | (cases (hX.symm.trans e7c : X = some _)) | (cases (hX.symm.trans e6 : X = some _)); clear hX) | fail)
  · refine hQ _ ?_
    exact congrArg (fun z => AV.d (D.bool z)) (by assumption)
  · exact absurd ‹false = true› Bool.false_ne_true
  · rename_i h1 h2 h3
    subst_vars
    simp at *
  · exact absurd ‹false = true› Bool.false_ne_true
  · exact absurd ‹false = true› Bool.false_ne_true

def S3 : List AV → Option AV
  | [.d (.str _), .d (.int .i64 _), .d (.int .i64 _)] => some (.d (.bool true))
  | _ => none

theorem S3_ok : SpecOk Try.prog 3 S3 := by
  obtain ⟨f, hf⟩ : ∃ f : F3, f = ⟨S6, S7, S8, S9, S10, S11, S12, S13, S14, S15⟩ := ⟨_, rfl⟩
  have htb : TblOk Try.prog f.tbl := by
    subst hf
    exact tblAdd_ok S6_ok (tblAdd_ok S7_ok (tblAdd_ok S8_ok (tblAdd_ok S9_ok (tblAdd_ok S10_ok (tblAdd_ok S11_ok (tblAdd_ok S12_ok (tblAdd_ok S13_ok (tblAdd_ok S14_ok (tblAdd_ok S15_ok (tbl0_ok _))))))))))
  have e6 : f.f6 [] = some (.d (.bool true)) := by rw [hf]; rfl
  have hfac : ∀ (s : List UInt8) (n v : Int), s.length < 549755813888 → ∃ (A B C : List Nat) (b : Bool),
    f.f8 [.d (.str s), .d (.int .i64 n)] = some (.d (.sl (intsD A))) ∧ f.f9 [.d (.str s), .d (.int .i64 n)] = some (.d (.sl (intsD A))) ∧
    f.f10 [.d (.str s), .d (.int .i64 n)] = some (.d (.sl (intsD B))) ∧ f.f11 [.d (.str s), .d (.int .i64 n)] = some (.d (.sl (intsD B))) ∧
    f.f12 [.d (.str s), .d (.int .i64 n), .d (.int .i64 v)] = some (.d (.bool b)) ∧ f.f13 [.d (.str s), .d (.int .i64 n), .d (.int .i64 v)] = some (.d (.bool b)) ∧
    f.f14 [.d (.str s), .d (.int .i64 n), .d (.int .i64 v)] = some (.d (.sl (intsD C))) ∧ f.f15 [.d (.str s), .d (.int .i64 n), .d (.int .i64 v)] = some (.d (.sl (intsD C))) ∧
    f.f7 [.d (.sl (intsD A)), .d (.sl (intsD A))] = some (.d (.bool true)) ∧ f.f7 [.d (.sl (intsD B)), .d (.sl (intsD B))] = some (.d (.bool true)) ∧ f.f7 [.d (.sl (intsD C)), .d (.sl (intsD C))] = some (.d (.bool true)) := by
    subst hf
    exact facts3
  clear hf
  intro args r h
  unfold S3 at h
  split at h
  · rename_i s n v
    cases h
    refine ⟨enters_of Try.func3 (by kernel_rfl) rfl, fun i hi => ?_, fn0_of' T_ok Try.func3 body3 (Nat.le_of_ble_eq_true rfl) rfl ?_⟩
    · match i, hi with
      | 0, _ => rfl
      | 1, _ => rfl
      | 2, _ => rfl
    refine RW.seq (fun σ => (σ.get 0 = .d (.str s) ∧ σ.get 1 = .d (.int .i64 n) ∧ σ.get 2 = .d (.int .i64 v)) ∧ σ.objs = []) (RW.of T_ok htb mixed (a3_ok f) (by (conv => whnf); exact ⟨⟨rfl, rfl, rfl⟩, rfl⟩)) fun σ0 h0 => ?_
    obtain ⟨tm, ob⟩ := σ0
    obtain ⟨⟨h0, h1, h2⟩, h3⟩ := h0
    have h3 : ob = [] := h3
    subst h3
    refine RW.weak (Weak.at [(0, .d (.str s)), (1, .d (.int .i64 n)), (2, .d (.int .i64 v))] fun p hp => by
      simp only [List.mem_cons, List.not_mem_nil, or_false] at hp
      rcases hp with rfl | rfl | rfl <;> assumption) ?_
    by_cases hs : s.length < 549755813888
    · obtain ⟨A, B, C, b, e8, e9, e10, e11, e12, e13, e14, e15, e7a, e7b, e7c⟩ := hfac s n v hs
      refine RW.seq (fun σ => (σ.get 0 = .d (.str s) ∧ σ.get 1 = .d (.int .i64 n) ∧ σ.get 2 = .d (.int .i64 v)) ∧ σ.objs = []) (RW.of T_ok htb mixed (c3_ok f) ?_) fun σ1 h1 => ?_
      · repeat' (first | ((conv => whnf); intro _ _) | ((conv => whnf); refine And.intro ?_ ?_ <;> intro h <;> cases h) | ((conv => whnf); generalize hX : Tbl.c _ _ _ = X; cases (hX.symm.trans e6 : X = some _); clear hX) | fail)
        all_goals (conv => whnf)
        · exact congrArg (fun z => AV.d (D.bool z)) (by assumption)
        · exact ⟨⟨rfl, rfl, rfl⟩, rfl⟩
      obtain ⟨tm1, ob1⟩ := σ1
      obtain ⟨⟨h0, h1, h2⟩, h3⟩ := h1
      have h3 : ob1 = [] := h3
      subst h3
      refine RW.weak (Weak.at [(0, .d (.str s)), (1, .d (.int .i64 n)), (2, .d (.int .i64 v))] fun p hp => by
        simp only [List.mem_cons, List.not_mem_nil, or_false] at hp
        rcases hp with rfl | rfl | rfl <;> assumption) ?_
      refine RW.seq (fun σ => σ.get 6 = .d (.bool true)) (RW.of T_ok htb mixed (b3_ok f) (walk3 f s n v A B C b e6 e8 e9 e10 e11 e12 e13 e14 e15 e7a e7b e7c _ fun σ h => h)) fun σ2 h2 => ?_
      refine RW.of T_ok htb mixed (by kernel_rfl) ?_
      show see (σ2.get 6) (fun v => v = .d (.bool true))
      rw [h2]
      rfl
    · refine RW.seq (fun σ => False) (RW.of T_ok htb mixed (c3_ok f) ?_) fun σ1 h1 => h1.elim
      repeat' (first | ((conv => whnf); intro _ _) | ((conv => whnf); refine And.intro ?_ ?_ <;> intro h <;> cases h) | ((conv => whnf); generalize hX : Tbl.c _ _ _ = X; cases (hX.symm.trans e6 : X = some _); clear hX) | fail)
      all_goals (conv => whnf)
      · exact congrArg (fun z => AV.d (D.bool z)) (by assumption)
      · rename_i h
        have h := of_decide_eq_false h.symm
        omega
  · cases h
end Go.Proofs.Ytejejeginfjnjaa
