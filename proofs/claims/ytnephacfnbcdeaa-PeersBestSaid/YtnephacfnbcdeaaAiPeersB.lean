/- Contracts of the functions on members that have no loop. -/
import Derived.Test.YtnephacfnbcdeaaAiTy
import Derived.Test.YtnephacfnbcdeaaAiBallot
import Derived.Test.YtnephacfnbcdeaaAiPeersA
namespace Go.Proofs.Ytnephacfnbcdeaa
open Go Go.AI

/-! nums.bit, nums.Has -/
def S55 : List AV → Option AV
  | [.d (.int .i64 i)] => if 0 ≤ i ∧ i ≤ 6 then some (.d (.int .i64 (2 ^ i.toNat))) else none
  | _ => none

theorem S55_ok : SpecOk Try.prog 55 S55 := by
  refine spec_of T_ok (tblAdd_ok S40_ok (tbl0_ok _)) mixed Try.func55 (by kernel_rfl) rfl (by kernel_rfl) ?_
  intro args r h
  unfold S55 at h
  split at h
  · rename_i i
    split at h
    · rename_i hi
      cases h
      refine ⟨by simp [Try.f55], rfl, rfl, ?_⟩
      have : i = 0 ∨ i = 1 ∨ i = 2 ∨ i = 3 ∨ i = 4 ∨ i = 5 ∨ i = 6 := by omega
      rcases this with rfl | rfl | rfl | rfl | rfl | rfl | rfl
      all_goals repeat' (first | ((conv => whnf); intro _ _) | ((conv => whnf); refine And.intro ?_ ?_ <;> intro h <;> cases h))
      all_goals (conv => whnf)
      all_goals first | rfl | (exfalso; subst_vars; simp [withinB] at *)
    · cases h
  · cases h

def S46 : List AV → Option AV
  | [.d (.int .i64 c), .d (.int .i64 i)] => if 0 ≤ i ∧ i ≤ 6 then some (.d (.bool ((msk c).testBit i.toNat))) else none
  | _ => none

theorem S46_ok : SpecOk Try.prog 46 S46 := by
  refine spec_of T_ok (tblAdd_ok S55_ok (tbl0_ok _)) mixed Try.func46 (by kernel_rfl) rfl (by kernel_rfl) ?_
  intro args r h
  unfold S46 at h
  split at h
  · rename_i c i
    split at h
    · rename_i hi
      cases h
      refine ⟨by simp [Try.f46], rfl, rfl, ?_⟩
      have : i = 0 ∨ i = 1 ∨ i = 2 ∨ i = 3 ∨ i = 4 ∨ i = 5 ∨ i = 6 := by omega
      rcases this with rfl | rfl | rfl | rfl | rfl | rfl | rfl
      all_goals repeat' (first | ((conv => whnf); intro _ _) | ((conv => whnf); refine And.intro ?_ ?_ <;> intro h <;> cases h))
      all_goals (conv => whnf)
      all_goals subst_vars
      all_goals exact congrArg (fun b => AV.d (D.bool b)) (has_and c _ (by decide))
    · cases h
  · cases h

/-! peers.Has -/
def hasB (c i : Int) : Bool := decide (0 ≤ i) && decide (i ≤ 6) && (msk c).testBit i.toNat
def S24 : List AV → Option AV
  | [.d (.int .i64 c), .d (.int .i64 i)] => some (.d (.bool (hasB c i)))
  | _ => none

theorem S24_ok : SpecOk Try.prog 24 S24 := by
  refine spec_of T_ok (tblAdd_ok S46_ok (tblAdd_ok S40_ok (tbl0_ok _))) mixed Try.func24 (by kernel_rfl) rfl (by kernel_rfl) ?_
  intro args r h
  unfold S24 at h
  split at h
  · rename_i c i
    cases h
    refine ⟨by simp [Try.f24], rfl, rfl, ?_⟩
    by_cases hi : 0 ≤ i ∧ i ≤ 6
    · have : i = 0 ∨ i = 1 ∨ i = 2 ∨ i = 3 ∨ i = 4 ∨ i = 5 ∨ i = 6 := by omega
      rcases this with rfl | rfl | rfl | rfl | rfl | rfl | rfl
      all_goals repeat' (first | ((conv => whnf); intro _ _) | ((conv => whnf); refine And.intro ?_ ?_ <;> intro h <;> cases h))
      all_goals (conv => whnf)
      all_goals first | (subst_vars; rfl) | (exfalso; subst_vars; simp [withinB] at *; done)
    · have hf : withinB i 0 6 = false := by simp [withinB]; omega
      have hh : hasB c i = false := by simp [hasB]; omega
      rw [hh]
      repeat' (first | ((conv => whnf); intro _ _) | ((conv => whnf); refine And.intro ?_ ?_ <;> intro h <;> cases h))
      all_goals first | (exfalso; rename_i hw; rw [hf] at hw; cases hw; done) | rfl
  · cases h

/-! ref01.Has, ref12.Has -/
def S49 : List AV → Option AV
  | [.d (.int .i64 c), .d (.int .i64 i)] => if 0 ≤ i ∧ i ≤ 6 then some (.d (.bool ((msk c).testBit i.toNat))) else none
  | _ => none

theorem S49_ok : SpecOk Try.prog 49 S49 := by
  refine spec_of T_ok (tbl0_ok _) mixed Try.func49 (by kernel_rfl) rfl (by kernel_rfl) ?_
  intro args r h
  unfold S49 at h
  split at h
  · rename_i c i
    split at h
    · rename_i hi
      cases h
      refine ⟨by simp [Try.f49], rfl, rfl, ?_⟩
      have : i = 0 ∨ i = 1 ∨ i = 2 ∨ i = 3 ∨ i = 4 ∨ i = 5 ∨ i = 6 := by omega
      rcases this with rfl | rfl | rfl | rfl | rfl | rfl | rfl
      all_goals repeat' (first | ((conv => whnf); intro _ _) | ((conv => whnf); refine And.intro ?_ ?_ <;> intro h <;> cases h))
      all_goals (conv => whnf)
      all_goals first | (subst_vars; exact congrArg (fun b => AV.d (D.bool b)) (has_shr c _ (by decide))) | (exfalso; subst_vars; simp at *; done)
    · cases h
  · cases h

def S31 : List AV → Option AV
  | [.d (.int .i64 c), .d (.int .i64 i)] => some (.d (.bool (hasB c i)))
  | _ => none

theorem S31_ok : SpecOk Try.prog 31 S31 := by
  refine spec_of T_ok (tblAdd_ok S49_ok (tbl0_ok _)) mixed Try.func31 (by kernel_rfl) rfl (by kernel_rfl) ?_
  intro args r h
  unfold S31 at h
  split at h
  · rename_i c i
    cases h
    refine ⟨by simp [Try.f31], rfl, rfl, ?_⟩
    by_cases hi : 0 ≤ i ∧ i ≤ 6
    · have : i = 0 ∨ i = 1 ∨ i = 2 ∨ i = 3 ∨ i = 4 ∨ i = 5 ∨ i = 6 := by omega
      rcases this with rfl | rfl | rfl | rfl | rfl | rfl | rfl
      all_goals repeat' (first | ((conv => whnf); intro _ _) | ((conv => whnf); refine And.intro ?_ ?_ <;> intro h <;> cases h))
      all_goals (conv => whnf)
      all_goals first | (subst_vars; rfl) | (exfalso; subst_vars; simp at *; done)
    · have hh : hasB c i = false := by simp [hasB]; omega
      rw [hh]
      repeat' (first | ((conv => whnf); intro _ _) | ((conv => whnf); refine And.intro ?_ ?_ <;> intro h <;> cases h))
      all_goals first | rfl | (exfalso; subst_vars; simp at *; omega)
  · cases h

/-! counts -/
def S57 : List AV → Option AV
  | [.d (.int .u64 n)] => if 0 ≤ n ∧ n < 128 then some (.d (.int .i64 (pop n.toNat))) else none
  | _ => none

theorem S57_ok : SpecOk Try.prog 57 S57 := by
  refine spec_of T_ok (tbl0_ok _) mixed Try.func57 (by kernel_rfl) rfl (by kernel_rfl) ?_
  intro args r h
  unfold S57 at h
  split at h
  · rename_i n
    split at h
    · rename_i hi
      cases h
      refine ⟨by simp [Try.f57], rfl, rfl, ?_⟩
      repeat' (first | ((conv => whnf); intro _ _) | ((conv => whnf); refine And.intro ?_ ?_ <;> intro h <;> cases h))
      all_goals (conv => whnf)
      refine congrArg (fun z => AV.d (D.int .i64 z)) ?_
      obtain ⟨k, rfl⟩ : ∃ k : Nat, n = k := ⟨n.toNat, by omega⟩
      have hk : k < 128 := by omega
      clear hi
      revert k
      decide +kernel
    · cases h
  · cases h

theorem and_msk (a b : Int) : msk (IntKind.i64.wrap ((BitVec.ofInt 64 a &&& BitVec.ofInt 64 b).toNat : Nat)) = msk a &&& msk b := by
  have e : ∀ n : Nat, msk (IntKind.i64.wrap (n : Int)) = n % 128 := fun n => by
    simp [msk, IntKind.wrap, IntKind.bits, IntKind.signed]; omega
  rw [e, BitVec.toNat_and, show (128 : Nat) = 2 ^ 7 from rfl, Nat.and_mod_two_pow, show (2 : Nat) ^ 7 = 128 from rfl, toNat_ofInt_mod, toNat_ofInt_mod]

theorem xor_msk (a b : Int) : msk (IntKind.i64.wrap ((BitVec.ofInt 64 a ^^^ BitVec.ofInt 64 b).toNat : Nat)) = msk a ^^^ msk b := by
  have e : ∀ n : Nat, msk (IntKind.i64.wrap (n : Int)) = n % 128 := fun n => by
    simp [msk, IntKind.wrap, IntKind.bits, IntKind.signed]; omega
  rw [e, BitVec.toNat_xor, show (128 : Nat) = 2 ^ 7 from rfl, Nat.xor_mod_two_pow, show (2 : Nat) ^ 7 = 128 from rfl, toNat_ofInt_mod, toNat_ofInt_mod]

theorem pop_le (m : Nat) : pop m ≤ 7 := by
  unfold pop
  have h : ∀ b : Bool, b.toNat ≤ 1 := fun b => by cases b <;> decide
  have := h (m.testBit 0); have := h (m.testBit 1); have := h (m.testBit 2); have := h (m.testBit 3); have := h (m.testBit 4); have := h (m.testBit 5); have := h (m.testBit 6)
  omega

def S50 : List AV → Option AV
  | [.d (.int .i64 n)] => if 0 ≤ n ∧ n < 128 then some (.d (.int .i64 (pop n.toNat))) else none
  | _ => none

theorem S50_ok : SpecOk Try.prog 50 S50 := by
  refine spec_of T_ok (tblAdd_ok S57_ok (tbl0_ok _)) mixed Try.func50 (by kernel_rfl) rfl (by kernel_rfl) ?_
  intro args r h
  unfold S50 at h
  split at h
  · rename_i n
    split at h
    · rename_i hi
      cases h
      refine ⟨by simp [Try.f50], rfl, rfl, ?_⟩
      have e : IntKind.u64.wrap (IntKind.i64.wrap ((BitVec.ofInt 64 n &&& BitVec.ofInt 64 4611686018427387903).toNat : Nat)) = n := by
        obtain ⟨k, rfl⟩ : ∃ k : Nat, n = k := ⟨n.toNat, by omega⟩
        have hk : k < 128 := by omega
        clear hi
        revert k
        decide +kernel
      have et : tblAdd 57 S57 tbl0 57 [.d (.int .u64 (IntKind.u64.wrap (IntKind.i64.wrap ((BitVec.ofInt 64 n &&& BitVec.ofInt 64 4611686018427387903).toNat : Nat))))] = some (.d (.int .i64 (pop n.toNat))) := by
        rw [e]; simp [tblAdd, S57, hi]
      conv => whnf
      generalize hX : Tbl.c _ _ _ = X
      cases (hX.symm.trans et : X = some _)
      conv => whnf
    · cases h
  · cases h

def S32 : List AV → Option AV
  | [.d (.int .i64 c)] => some (.d (.int .i64 (pop (msk c))))
  | _ => none

theorem S32_ok : SpecOk Try.prog 32 S32 := by
  refine spec_of T_ok (tblAdd_ok S50_ok (tbl0_ok _)) mixed Try.func32 (by kernel_rfl) rfl (by kernel_rfl) ?_
  intro args r h
  unfold S32 at h
  split at h
  · rename_i c
    cases h
    refine ⟨by simp [Try.f32], rfl, rfl, ?_⟩
    have et : tblAdd 50 S50 tbl0 50 [.d (.int .i64 (IntKind.i64.wrap ((BitVec.ofInt 64 c &&& BitVec.ofInt 64 127).toNat : Nat)))] = some (.d (.int .i64 (pop (msk c)))) := by
      have hm := msk_lt c
      rw [and127]
      simp [tblAdd, S50]
      omega
    conv => whnf
    generalize hX : Tbl.c _ _ _ = X
    cases (hX.symm.trans et : X = some _)
    conv => whnf
  · cases h

def S45 : List AV → Option AV
  | [.d (.int .i64 c), .d (.int .i64 n)] => some (.d (.bool (decide (((pop (msk c) / 2 : Nat) : Int) < n))))
  | _ => none

theorem S45_ok : SpecOk Try.prog 45 S45 := by
  refine spec_of T_ok (tblAdd_ok S32_ok (tbl0_ok _)) mixed Try.func45 (by kernel_rfl) rfl (by kernel_rfl) ?_
  intro args r h
  unfold S45 at h
  split at h
  · rename_i c n
    cases h
    refine ⟨by simp [Try.f45], rfl, rfl, ?_⟩
    repeat' (first | ((conv => whnf); intro _ _) | ((conv => whnf); refine And.intro ?_ ?_ <;> intro h <;> cases h))
    all_goals (conv => whnf)
    all_goals subst_vars
    have e : IntKind.i64.wrap ((pop (msk c) : Int).tdiv 2) = ((pop (msk c) / 2 : Nat) : Int) := by
      have := pop_le (msk c)
      generalize pop (msk c) = k at *
      revert k
      decide +kernel
    exact congrArg (fun z : Int => AV.d (D.bool (decide (z < n)))) e
  · cases h

theorem quo_t (k m : Nat) (h : true = decide (0 < (k : Int))) : decide (((m / 2 : Nat) : Int) < k) = (decide (0 < k) && decide (m / 2 < k)) := by
  have h1 : 0 < k := by simpa using h.symm
  rw [decide_eq_true h1, Bool.true_and]
  exact decide_eq_decide.2 (by omega)
theorem quo_f (k m : Nat) (h : false = decide (0 < (k : Int))) : false = (decide (0 < k) && decide (m / 2 < k)) := by
  have h1 : ¬ 0 < k := by simpa using h.symm
  rw [decide_eq_false h1, Bool.false_and]

def quoB (c y : Int) : Bool := decide (0 < pop (msk c &&& msk y)) && decide (pop (msk c) / 2 < pop (msk c &&& msk y))
def S23 : List AV → Option AV
  | [.d (.int .i64 c), .d (.int .i64 y)] => some (.d (.bool (quoB c y)))
  | _ => none

theorem S23_ok : SpecOk Try.prog 23 S23 := by
  refine spec_of T_ok (tblAdd_ok S32_ok (tblAdd_ok S45_ok (tbl0_ok _))) mixed Try.func23 (by kernel_rfl) rfl (by kernel_rfl) ?_
  intro args r h
  unfold S23 at h
  split at h
  · rename_i c y
    cases h
    refine ⟨by simp [Try.f23], rfl, rfl, ?_⟩
    repeat' (first | ((conv => whnf); intro _ _) | ((conv => whnf); refine And.intro ?_ ?_ <;> intro h <;> cases h))
    all_goals (conv => whnf)
    all_goals subst_vars
    all_goals (have e : msk (IntKind.i64.wrap ((BitVec.ofInt IntKind.i64.bits c &&& BitVec.ofInt IntKind.i64.bits y).toNat : Nat)) = msk c &&& msk y := and_msk c y)
    all_goals rename_i hh
    all_goals first | rw [e] at hh ⊢ | rw [e] at hh
    all_goals first | exact congrArg (fun b => AV.d (D.bool b)) (quo_t _ _ hh) | exact congrArg (fun b => AV.d (D.bool b)) (quo_f _ _ hh)
  · cases h

def errOf (b : Bool) : Int := if b then 0 else 1
def S22 : List AV → Option AV
  | [.d (.int .i64 c)] => some (.d (.int .i64 (errOf (withinB c 1 127))))
  | _ => none

theorem S22_ok : SpecOk Try.prog 22 S22 := by
  refine spec_of T_ok (tblAdd_ok S40_ok (tbl0_ok _)) mixed Try.func22 (by kernel_rfl) rfl (by kernel_rfl) ?_
  intro args r h
  unfold S22 at h
  split at h
  · rename_i c
    cases h
    refine ⟨by simp [Try.f22], rfl, rfl, ?_⟩
    repeat' (first | ((conv => whnf); intro _ _) | ((conv => whnf); refine And.intro ?_ ?_ <;> intro h <;> cases h))
    all_goals (conv => whnf)
    all_goals simp [errOf, *]
  · cases h

def S30 : List AV → Option AV
  | [.d (.int .i64 c)] => some (.d (.int .i64 (errOf (withinB c 1 127))))
  | _ => none

theorem S30_ok : SpecOk Try.prog 30 S30 := by
  refine spec_of T_ok (tbl0_ok _) mixed Try.func30 (by kernel_rfl) rfl (by kernel_rfl) ?_
  intro args r h
  unfold S30 at h
  split at h
  · rename_i c
    cases h
    refine ⟨by simp [Try.f30], rfl, rfl, ?_⟩
    repeat' (first | ((conv => whnf); intro _ _) | ((conv => whnf); refine And.intro ?_ ?_ <;> intro h <;> cases h))
    all_goals (conv => whnf)
    all_goals (simp at *; simp [errOf, withinB]; omega)
  · cases h
end Go.Proofs.Ytnephacfnbcdeaa
