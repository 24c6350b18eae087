/- More contracts on members. -/
import Derived.Test.YtnephacfnbcdeaaAiPeersC
namespace Go.Proofs.Ytnephacfnbcdeaa
open Go Go.AI

theorem upTo_pop (m : Nat) : (upTo m 7).length = pop m := by
  simp only [upTo, pop]
  cases m.testBit 0 <;> cases m.testBit 1 <;> cases m.testBit 2 <;> cases m.testBit 3 <;> cases m.testBit 4 <;> cases m.testBit 5 <;> cases m.testBit 6 <;> rfl

def S33 : List AV → Option AV
  | [.d (.int .i64 c)] => some (.d (.int .i64 (pop (msk c))))
  | _ => none

theorem S33_ok : SpecOk Try.prog 33 S33 := by
  refine spec_of T_ok (tblAdd_ok S38_ok (tbl0_ok _)) mixed Try.func33 (by kernel_rfl) rfl (by kernel_rfl) ?_
  intro args r h
  unfold S33 at h
  split at h
  · rename_i c
    cases h
    refine ⟨by simp [Try.f33], rfl, rfl, ?_⟩
    conv => whnf
    rw [← upTo_pop]
    simp [rowsN]
  · cases h

def chgI (a b : Int) : Int := if withinB a 1 127 = true ∧ withinB b 1 127 = true ∧ pop (msk a ^^^ msk b) = 1 then 0 else 19
def S20 : List AV → Option AV
  | [.d (.int .i64 a), .d (.int .i64 b)] => some (.d (.int .i64 (chgI a b)))
  | _ => none

theorem errOf_ne (b : Bool) : (!(errOf b == 0)) = !b := by cases b <;> rfl

theorem S20_ok : SpecOk Try.prog 20 S20 := by
  refine spec_of T_ok (tblAdd_ok S22_ok (tblAdd_ok S32_ok (tbl0_ok _))) mixed Try.func20 (by kernel_rfl) rfl (by kernel_rfl) ?_
  intro args r h
  unfold S20 at h
  split at h
  · rename_i a b
    cases h
    refine ⟨by simp [Try.f20], rfl, rfl, ?_⟩
    repeat' (first | ((conv => whnf); intro _ _) | ((conv => whnf); refine And.intro ?_ ?_ <;> intro h <;> cases h) | fail)
    all_goals (conv => whnf)
    all_goals (have e : msk (IntKind.i64.wrap ((BitVec.ofInt IntKind.i64.bits a ^^^ BitVec.ofInt IntKind.i64.bits b).toNat : Nat)) = msk a ^^^ msk b := xor_msk a b)
    all_goals simp only [e, errOf_ne] at *
    all_goals clear e
    all_goals refine congrArg (fun z => AV.d (D.int .i64 z)) ?_
    all_goals unfold chgI
    all_goals generalize pop (msk a ^^^ msk b) = k at *
    all_goals generalize withinB a 1 127 = p at *
    all_goals generalize withinB b 1 127 = q at *
    all_goals (cases p <;> cases q <;> simp at * <;> omega)
  · cases h

/-! ref12.Quorum -/
def cntY (y : Int) : List Nat → Nat
  | [] => 0
  | x :: l => (hasB y x).toNat + cntY y l

theorem cntY_append (y : Int) (l m : List Nat) : cntY y (l ++ m) = cntY y l + cntY y m := by
  induction l with
  | nil => simp [cntY]
  | cons x l ih => simp only [List.cons_append, cntY, ih]; omega

theorem cntY_le (y : Int) (l : List Nat) : cntY y l ≤ l.length := by
  induction l with
  | nil => simp [cntY]
  | cons x l ih => simp only [cntY, List.length_cons]; cases hasB y x <;> simp <;> omega

def refQ (c y : Int) : Bool := decide ((upTo (msk c) 7).length < 2 * cntY y (upTo (msk c) 7))
def S34 : List AV → Option AV
  | [.d (.int .i64 c), .d (.int .i64 y)] => some (.d (.bool (refQ c y)))
  | _ => none

def st34 (c y : Int) (i : Nat) : AS :=
  ⟨[(0, .d (.int .i64 c)), (1, .d (.int .i64 y)), (5, .d (.int .i64 (cntY y ((upTo (msk c) 7).take i)))), (6, .d (.sl (rowsN (upTo (msk c) 7)))), (7, .d (.int .i64 i))], []⟩

theorem at5 {σ : AS} {i j k l m : Nat} {a b c d e : AV} (h1 : σ.get i = a) (h2 : σ.get j = b) (h3 : σ.get k = c) (h4 : σ.get l = d) (h5 : σ.get m = e) : Weak σ ⟨[(i, a), (j, b), (k, c), (l, d), (m, e)], σ.objs⟩ :=
  Weak.at _ fun p hp => by
    simp only [List.mem_cons, List.not_mem_nil, or_false] at hp
    rcases hp with rfl | rfl | rfl | rfl | rfl
    · exact h1
    · exact h2
    · exact h3
    · exact h4
    · exact h5

theorem S34_ok : SpecOk Try.prog 34 S34 := by
  refine spec_of T_ok (tblAdd_ok S38_ok (tblAdd_ok S31_ok (tbl0_ok _))) mixed Try.func34 (by kernel_rfl) rfl (by kernel_rfl) ?_
  intro args r h
  unfold S34 at h
  split at h
  · rename_i c y
    cases h
    refine ⟨by simp [Try.f34], rfl, rfl, ?_⟩
    conv => whnf
    have hle := upTo_length (msk c) 7
    refine ⟨fun k σ => ∃ i, i ≤ (upTo (msk c) 7).length ∧ k = (upTo (msk c) 7).length - i ∧ σ = st34 c y i, (upTo (msk c) 7).length, ⟨_, at5 (i := 0) (j := 1) (k := 5) (l := 6) (m := 7) rfl rfl rfl rfl rfl, 0, by omega, rfl, rfl⟩, ?_⟩
    rintro k σ ⟨i, hi, rfl, hσ⟩
    unfold st34 at hσ
    subst hσ
    repeat' (first | ((conv => whnf); intro _ _) | ((conv => whnf); refine And.intro ?_ ?_ <;> intro h <;> cases h) | ((conv => whnf); refine And.intro (?_ : Side _) ?_) | ((conv => whnf); refine Or.inl ?_) | ((conv => whnf); refine ⟨[.int .i64 ((upTo (msk c) 7).getD i 0 : Nat)], (?_ : Side _ ∧ _)⟩) | fail)
    all_goals (conv => whnf)
    · rename_i h7
      have hlt : i < (upTo (msk c) 7).length := by
        have := of_decide_eq_true h7.symm
        simp [rowsN] at this
        omega
      exact ⟨by omega, of_decide_eq_true h7.symm, by simp [rowsN, List.getD_eq_getElem?_getD, hlt]⟩
    · rename_i h7 hb
      have hlt : i < (upTo (msk c) 7).length := by
        have := of_decide_eq_true h7.symm
        simp [rowsN] at this
        omega
      have hc : cntY y ((upTo (msk c) 7).take (i + 1)) = cntY y ((upTo (msk c) 7).take i) + 1 := by
        rw [List.take_succ_eq_append_getElem hlt, cntY_append]
        have e : (upTo (msk c) 7).getD i 0 = (upTo (msk c) 7)[i] := by simp [List.getD_eq_getElem?_getD, hlt]
        rw [e] at hb
        simp [cntY, ← hb]
      have hcl := cntY_le y ((upTo (msk c) 7).take i)
      have hcl2 : ((upTo (msk c) 7).take i).length ≤ 7 := by simp; omega
      refine ⟨(upTo (msk c) 7).length - (i + 1), _, by omega, at5 (i := 0) (j := 1) (k := 5) (l := 6) (m := 7) rfl rfl (congrArg (fun z => AV.d (D.int .i64 z)) (nats_i64 (by omega))) rfl (congrArg (fun z => AV.d (D.int .i64 z)) (nats_i64 (by omega))), i + 1, by omega, rfl, ?_⟩
      rw [st34, hc]
      rfl
    · rename_i h7 hb
      have hlt : i < (upTo (msk c) 7).length := by
        have := of_decide_eq_true h7.symm
        simp [rowsN] at this
        omega
      have hc : cntY y ((upTo (msk c) 7).take (i + 1)) = cntY y ((upTo (msk c) 7).take i) := by
        rw [List.take_succ_eq_append_getElem hlt, cntY_append]
        have e : (upTo (msk c) 7).getD i 0 = (upTo (msk c) 7)[i] := by simp [List.getD_eq_getElem?_getD, hlt]
        rw [e] at hb
        simp [cntY, ← hb]
      refine ⟨(upTo (msk c) 7).length - (i + 1), _, by omega, at5 (i := 0) (j := 1) (k := 5) (l := 6) (m := 7) rfl rfl rfl rfl (congrArg (fun z => AV.d (D.int .i64 z)) (nats_i64 (by omega))), i + 1, by omega, rfl, ?_⟩
      rw [st34, hc]
      rfl
    · rename_i h7 cc hb
      have hge : (upTo (msk c) 7).length ≤ i := by
        have := of_decide_eq_false h7.symm
        simp [rowsN] at this
        omega
      have hi' : (upTo (msk c) 7).take i = upTo (msk c) 7 := List.take_of_length_le hge
      have hcl := cntY_le y (upTo (msk c) 7)
      rw [hi'] at hb
      subst hb
      refine congrArg (fun b => AV.d (D.bool b)) ?_
      have ew : IntKind.i64.wrap (2 * (cntY y (upTo (msk c) 7) : Int)) = ((2 * cntY y (upTo (msk c) 7) : Nat) : Int) := by
        have := wrapi_nat (2 * cntY y (upTo (msk c) 7)) (by omega)
        rw [← this]
        congr 1
      rw [ew]
      simp only [refQ, rowsN, List.length_map]
      exact decide_eq_decide.2 (by omega)
  · cases h

end Go.Proofs.Ytnephacfnbcdeaa
