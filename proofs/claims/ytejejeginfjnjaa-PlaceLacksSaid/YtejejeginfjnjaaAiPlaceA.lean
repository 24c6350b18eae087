/- The words of a sum: turns, and what is made of them, on both sides. -/
import Derived.Test.YtejejeginfjnjaaAiTy
import Derived.Test.YtejejeginfjnjaaAiQ
import Derived.Test.YtejejeginfjnjaaAiL
namespace Go.Proofs.Ytejejeginfjnjaa
open Go Go.AI
set_option linter.unusedVariables false

def w32 (n : Int) : Int := IntKind.u32.wrap n
def or32 (a b : Int) : Int := w32 (BitVec.ofInt 32 a ||| BitVec.ofInt 32 b).toNat
def xor32 (a b : Int) : Int := w32 (BitVec.ofInt 32 a ^^^ BitVec.ofInt 32 b).toNat
def and32 (a b : Int) : Int := w32 (BitVec.ofInt 32 a &&& BitVec.ofInt 32 b).toNat
def rotQ (x : Int) (n : Nat) : Int := or32 (x.fdiv (2 ^ n)) (w32 (x * 2 ^ (32 - n)))
def rotP (x : Int) (n : Nat) : Int := or32 (w32 (x * 2 ^ (32 - n))) (x.fdiv (2 ^ n))

def turns (n : Int) : Option Nat :=
  match n with
  | 2 => some 2
  | 6 => some 6
  | 7 => some 7
  | 11 => some 11
  | 13 => some 13
  | 17 => some 17
  | 18 => some 18
  | 19 => some 19
  | 22 => some 22
  | 25 => some 25
  | _ => none

theorem turns_of {n : Int} {m : Nat} (h : turns n = some m) : (n = 2 ∧ m = 2) ∨ (n = 6 ∧ m = 6) ∨ (n = 7 ∧ m = 7) ∨ (n = 11 ∧ m = 11) ∨ (n = 13 ∧ m = 13) ∨ (n = 17 ∧ m = 17) ∨ (n = 18 ∧ m = 18) ∨ (n = 19 ∧ m = 19) ∨ (n = 22 ∧ m = 22) ∨ (n = 25 ∧ m = 25) := by
  unfold turns at h
  split at h <;> simp_all

def S85 : List AV → Option AV
  | [.d (.int .u32 x), .d (.int .i64 n)] => match turns n with
    | some m => some (.d (.int .u32 (rotQ x m)))
    | none => none
  | _ => none

theorem S85_ok : SpecOk Try.prog 85 S85 := by
  refine spec_of T_ok (tbl0_ok _) mixed Try.func85 (by kernel_rfl) rfl (by kernel_rfl) ?_
  intro args r h
  unfold S85 at h
  split at h
  · split at h
    · rename_i x n _ m hm
      cases h
      refine ⟨by simp [Try.f85], rfl, rfl, ?_⟩
      rcases turns_of hm with ⟨rfl, rfl⟩ | ⟨rfl, rfl⟩ | ⟨rfl, rfl⟩ | ⟨rfl, rfl⟩ | ⟨rfl, rfl⟩ | ⟨rfl, rfl⟩ | ⟨rfl, rfl⟩ | ⟨rfl, rfl⟩ | ⟨rfl, rfl⟩ | ⟨rfl, rfl⟩
      all_goals (conv => whnf)
      all_goals rfl
    · cases h
  · cases h
def S91 : List AV → Option AV
  | [.d (.int .u32 x), .d (.int .i64 n)] => match turns (-n) with
    | some m => some (.d (.int .u32 (rotP x m)))
    | none => none
  | _ => none

theorem S91_ok : SpecOk Try.prog 91 S91 := by
  refine spec_of (tbl := tbl0) T_ok (tbl0_ok _) mixed Try.func91 (by kernel_rfl) rfl (by kernel_rfl) ?_
  intro args r h
  unfold S91 at h
  split at h
  · split at h
    · rename_i x n _ m hm
      cases h
      refine ⟨by simp [Try.f91], rfl, rfl, ?_⟩
      generalize hn : -n = n' at hm; obtain rfl : n = -n' := by omega
      rcases turns_of hm with ⟨rfl, rfl⟩ | ⟨rfl, rfl⟩ | ⟨rfl, rfl⟩ | ⟨rfl, rfl⟩ | ⟨rfl, rfl⟩ | ⟨rfl, rfl⟩ | ⟨rfl, rfl⟩ | ⟨rfl, rfl⟩ | ⟨rfl, rfl⟩ | ⟨rfl, rfl⟩
      all_goals (conv => whnf)
      all_goals rfl
    · cases h
  · cases h

def S89 : List AV → Option AV
  | [.d (.int .u32 x), .d (.int .i64 n)] => match turns n with
    | some m => some (.d (.int .u32 (rotP x m)))
    | none => none
  | _ => none

theorem S89_ok : SpecOk Try.prog 89 S89 := by
  refine spec_of (tbl := tblAdd 91 S91 (tbl0)) T_ok (tblAdd_ok S91_ok (tbl0_ok _)) mixed Try.func89 (by kernel_rfl) rfl (by kernel_rfl) ?_
  intro args r h
  unfold S89 at h
  split at h
  · split at h
    · rename_i x n _ m hm
      cases h
      refine ⟨by simp [Try.f89], rfl, rfl, ?_⟩
      
      rcases turns_of hm with ⟨rfl, rfl⟩ | ⟨rfl, rfl⟩ | ⟨rfl, rfl⟩ | ⟨rfl, rfl⟩ | ⟨rfl, rfl⟩ | ⟨rfl, rfl⟩ | ⟨rfl, rfl⟩ | ⟨rfl, rfl⟩ | ⟨rfl, rfl⟩ | ⟨rfl, rfl⟩
      all_goals (conv => whnf)
      all_goals rfl
    · cases h
  · cases h

def S75 : List AV → Option AV
  | [.d (.int .u32 x)] => some (.d (.int .u32 (xor32 (xor32 (rotP x 6) (rotP x 11)) (rotP x 25))))
  | _ => none

theorem S75_ok : SpecOk Try.prog 75 S75 := by
  refine spec_of (tbl := tblAdd 89 S89 (tbl0)) T_ok (tblAdd_ok S89_ok (tbl0_ok _)) mixed Try.func75 (by kernel_rfl) rfl (by kernel_rfl) ?_
  intro args r h
  unfold S75 at h
  split at h
  · cases h
    refine ⟨by simp [Try.f75], rfl, rfl, ?_⟩
    repeat' (first | ((conv => whnf); intro _ _) | ((conv => whnf); refine And.intro ?_ ?_ <;> intro h <;> cases h) | ((conv => whnf); refine And.intro (?_ : Side _) ?_) | fail)
    all_goals (conv => whnf)
    all_goals rfl
  · cases h

def S77 : List AV → Option AV
  | [.d (.int .u32 x)] => some (.d (.int .u32 (xor32 (xor32 (rotP x 2) (rotP x 13)) (rotP x 22))))
  | _ => none

theorem S77_ok : SpecOk Try.prog 77 S77 := by
  refine spec_of (tbl := tblAdd 89 S89 (tbl0)) T_ok (tblAdd_ok S89_ok (tbl0_ok _)) mixed Try.func77 (by kernel_rfl) rfl (by kernel_rfl) ?_
  intro args r h
  unfold S77 at h
  split at h
  · cases h
    refine ⟨by simp [Try.f77], rfl, rfl, ?_⟩
    repeat' (first | ((conv => whnf); intro _ _) | ((conv => whnf); refine And.intro ?_ ?_ <;> intro h <;> cases h) | ((conv => whnf); refine And.intro (?_ : Side _) ?_) | fail)
    all_goals (conv => whnf)
    all_goals rfl
  · cases h

def S87 : List AV → Option AV
  | [.d (.int .u32 x)] => some (.d (.int .u32 (xor32 (xor32 (rotP x 17) (rotP x 19)) (x.fdiv (2 ^ 10)))))
  | _ => none

theorem S87_ok : SpecOk Try.prog 87 S87 := by
  refine spec_of (tbl := tblAdd 89 S89 (tbl0)) T_ok (tblAdd_ok S89_ok (tbl0_ok _)) mixed Try.func87 (by kernel_rfl) rfl (by kernel_rfl) ?_
  intro args r h
  unfold S87 at h
  split at h
  · cases h
    refine ⟨by simp [Try.f87], rfl, rfl, ?_⟩
    repeat' (first | ((conv => whnf); intro _ _) | ((conv => whnf); refine And.intro ?_ ?_ <;> intro h <;> cases h) | ((conv => whnf); refine And.intro (?_ : Side _) ?_) | fail)
    all_goals (conv => whnf)
    all_goals rfl
  · cases h

def S88 : List AV → Option AV
  | [.d (.int .u32 x)] => some (.d (.int .u32 (xor32 (xor32 (rotP x 7) (rotP x 18)) (x.fdiv (2 ^ 3)))))
  | _ => none

theorem S88_ok : SpecOk Try.prog 88 S88 := by
  refine spec_of (tbl := tblAdd 89 S89 (tbl0)) T_ok (tblAdd_ok S89_ok (tbl0_ok _)) mixed Try.func88 (by kernel_rfl) rfl (by kernel_rfl) ?_
  intro args r h
  unfold S88 at h
  split at h
  · cases h
    refine ⟨by simp [Try.f88], rfl, rfl, ?_⟩
    repeat' (first | ((conv => whnf); intro _ _) | ((conv => whnf); refine And.intro ?_ ?_ <;> intro h <;> cases h) | ((conv => whnf); refine And.intro (?_ : Side _) ?_) | fail)
    all_goals (conv => whnf)
    all_goals rfl
  · cases h

def S76 : List AV → Option AV
  | [.d (.int .u32 x), .d (.int .u32 y), .d (.int .u32 z)] => some (.d (.int .u32 (xor32 z (and32 x (xor32 y z)))))
  | _ => none

theorem S76_ok : SpecOk Try.prog 76 S76 := by
  refine spec_of (tbl := tbl0) T_ok (tbl0_ok _) mixed Try.func76 (by kernel_rfl) rfl (by kernel_rfl) ?_
  intro args r h
  unfold S76 at h
  split at h
  · cases h
    refine ⟨by simp [Try.f76], rfl, rfl, ?_⟩
    repeat' (first | ((conv => whnf); intro _ _) | ((conv => whnf); refine And.intro ?_ ?_ <;> intro h <;> cases h) | ((conv => whnf); refine And.intro (?_ : Side _) ?_) | fail)
    all_goals (conv => whnf)
    all_goals rfl
  · cases h

def S78 : List AV → Option AV
  | [.d (.int .u32 x), .d (.int .u32 y), .d (.int .u32 z)] => some (.d (.int .u32 (or32 (and32 x y) (and32 z (or32 x y)))))
  | _ => none

theorem S78_ok : SpecOk Try.prog 78 S78 := by
  refine spec_of (tbl := tbl0) T_ok (tbl0_ok _) mixed Try.func78 (by kernel_rfl) rfl (by kernel_rfl) ?_
  intro args r h
  unfold S78 at h
  split at h
  · cases h
    refine ⟨by simp [Try.f78], rfl, rfl, ?_⟩
    repeat' (first | ((conv => whnf); intro _ _) | ((conv => whnf); refine And.intro ?_ ?_ <;> intro h <;> cases h) | ((conv => whnf); refine And.intro (?_ : Side _) ?_) | fail)
    all_goals (conv => whnf)
    all_goals rfl
  · cases h

end Go.Proofs.Ytejejeginfjnjaa
