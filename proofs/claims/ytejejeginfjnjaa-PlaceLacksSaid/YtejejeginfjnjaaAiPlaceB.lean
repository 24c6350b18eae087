/- The constants of a sum, on both sides. -/
import Derived.Test.YtejejeginfjnjaaAiPlaceA
namespace Go.Proofs.Ytejejeginfjnjaa
open Go Go.AI
set_option linter.unusedVariables false

def u32D (l : List Int) : List D := l.map (.int .u32)
def u8D (l : List Int) : List D := l.map (.int .u8)
def H8 : List Int := [0x6a09e667, 0xbb67ae85, 0x3c6ef372, 0xa54ff53a, 0x510e527f, 0x9b05688c, 0x1f83d9ab, 0x5be0cd19]
def K64 : List Int := [0x428a2f98, 0x71374491, 0xb5c0fbcf, 0xe9b5dba5, 0x3956c25b, 0x59f111f1, 0x923f82a4, 0xab1c5ed5,
  0xd807aa98, 0x12835b01, 0x243185be, 0x550c7dc3, 0x72be5d74, 0x80deb1fe, 0x9bdc06a7, 0xc19bf174,
  0xe49b69c1, 0xefbe4786, 0x0fc19dc6, 0x240ca1cc, 0x2de92c6f, 0x4a7484aa, 0x5cb0a9dc, 0x76f988da,
  0x983e5152, 0xa831c66d, 0xb00327c8, 0xbf597fc7, 0xc6e00bf3, 0xd5a79147, 0x06ca6351, 0x14292967,
  0x27b70a85, 0x2e1b2138, 0x4d2c6dfc, 0x53380d13, 0x650a7354, 0x766a0abb, 0x81c2c92e, 0x92722c85,
  0xa2bfe8a1, 0xa81a664b, 0xc24b8b70, 0xc76c51a3, 0xd192e819, 0xd6990624, 0xf40e3585, 0x106aa070,
  0x19a4c116, 0x1e376c08, 0x2748774c, 0x34b0bcb5, 0x391c0cb3, 0x4ed8aa4a, 0x5b9cca4f, 0x682e6ff3,
  0x748f82ee, 0x78a5636f, 0x84c87814, 0x8cc70208, 0x90befffa, 0xa4506ceb, 0xbef9a3f7, 0xc67178f2]

def S51 : List AV → Option AV
  | [] => some (.ar (u32D H8))
  | _ => none

set_option maxRecDepth 100000 in
theorem S51_ok : SpecOk Try.prog 51 S51 := by
  refine spec_of (tbl := tblA 73 (tblA 92 tbl0)) T_ok (tblA_ok (tblA_ok (tbl0_ok _))) mixed Try.func51 (by kernel_rfl) rfl (by kernel_rfl) ?_
  intro args r h
  unfold S51 at h
  split at h
  · cases h
    refine ⟨by simp [Try.f51], rfl, rfl, ?_⟩
    repeat' (first | ((conv => whnf); intro _ _) | ((conv => whnf); refine And.intro ?_ ?_ <;> intro h <;> cases h) | ((conv => whnf); refine And.intro (?_ : Side _) ?_) | ((conv => whnf); refine Exists.intro _ (And.intro (⟨⟨rfl, by decide, rfl⟩⟩ : Side _) ?_)) | fail)
    all_goals first | exact ⟨by decide⟩ | skip
    all_goals (conv => whnf)
    all_goals rfl
  · cases h

def S65 : List AV → Option AV
  | [] => some (.ar (u32D H8))
  | _ => none

set_option maxRecDepth 100000 in
theorem S65_ok : SpecOk Try.prog 65 S65 := by
  refine spec_of (tbl := tblA 73 (tblA 92 tbl0)) T_ok (tblA_ok (tblA_ok (tbl0_ok _))) mixed Try.func65 (by kernel_rfl) rfl (by kernel_rfl) ?_
  intro args r h
  unfold S65 at h
  split at h
  · cases h
    refine ⟨by simp [Try.f65], rfl, rfl, ?_⟩
    repeat' (first | ((conv => whnf); intro _ _) | ((conv => whnf); refine And.intro ?_ ?_ <;> intro h <;> cases h) | ((conv => whnf); refine And.intro (?_ : Side _) ?_) | ((conv => whnf); refine Exists.intro _ (And.intro (⟨⟨rfl, by decide, rfl⟩⟩ : Side _) ?_)) | fail)
    all_goals first | exact ⟨by decide⟩ | skip
    all_goals (conv => whnf)
    all_goals rfl
  · cases h

def S74 : List AV → Option AV
  | [] => some (.ar (u32D K64))
  | _ => none

set_option maxRecDepth 100000 in
theorem S74_ok : SpecOk Try.prog 74 S74 := by
  refine spec_of (tbl := tblA 73 (tblA 92 tbl0)) T_ok (tblA_ok (tblA_ok (tbl0_ok _))) mixed Try.func74 (by kernel_rfl) rfl (by kernel_rfl) ?_
  intro args r h
  unfold S74 at h
  split at h
  · cases h
    refine ⟨by simp [Try.f74], rfl, rfl, ?_⟩
    repeat' (first | ((conv => whnf); intro _ _) | ((conv => whnf); refine And.intro ?_ ?_ <;> intro h <;> cases h) | ((conv => whnf); refine And.intro (?_ : Side _) ?_) | ((conv => whnf); refine Exists.intro _ (And.intro (⟨⟨rfl, by decide, rfl⟩⟩ : Side _) ?_)) | fail)
    all_goals first | exact ⟨by decide⟩ | skip
    all_goals (conv => whnf)
    all_goals rfl
  · cases h

def S84 : List AV → Option AV
  | [] => some (.ar (u32D K64))
  | _ => none

set_option maxRecDepth 100000 in
theorem S84_ok : SpecOk Try.prog 84 S84 := by
  refine spec_of (tbl := tblA 73 (tblA 92 tbl0)) T_ok (tblA_ok (tblA_ok (tbl0_ok _))) mixed Try.func84 (by kernel_rfl) rfl (by kernel_rfl) ?_
  intro args r h
  unfold S84 at h
  split at h
  · cases h
    refine ⟨by simp [Try.f84], rfl, rfl, ?_⟩
    repeat' (first | ((conv => whnf); intro _ _) | ((conv => whnf); refine And.intro ?_ ?_ <;> intro h <;> cases h) | ((conv => whnf); refine And.intro (?_ : Side _) ?_) | ((conv => whnf); refine Exists.intro _ (And.intro (⟨⟨rfl, by decide, rfl⟩⟩ : Side _) ?_)) | fail)
    all_goals first | exact ⟨by decide⟩ | skip
    all_goals (conv => whnf)
    all_goals rfl
  · cases h

end Go.Proofs.Ytejejeginfjnjaa
