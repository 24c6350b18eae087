/- Sets of small numbers: what the program's operations on bits say of a set's seven members. -/
import Derived.Test.YtnephacfnbcdeaaAiI
namespace Go.Proofs.Ytnephacfnbcdeaa
open Go Go.AI

def msk (c : Int) : Nat := (c % 128).toNat
theorem msk_lt (c : Int) : msk c < 128 := by unfold msk; omega

theorem bits64 : IntKind.i64.bits = 64 := rfl
theorem bits64u : IntKind.u64.bits = 64 := rfl

theorem wrapi_nat (n : Nat) (h : n < 2 ^ 63) : IntKind.i64.wrap (n : Int) = n := by
  have : n < 9223372036854775808 := h
  simp [IntKind.wrap, IntKind.bits, IntKind.signed]; omega

theorem and127 (c : Int) : IntKind.i64.wrap ((BitVec.ofInt 64 c &&& BitVec.ofInt 64 127).toNat : Nat) = msk c := by
  have e : (BitVec.ofInt 64 c &&& BitVec.ofInt 64 127).toNat = msk c := by
    rw [BitVec.toNat_and, show (BitVec.ofInt 64 127).toNat = 2 ^ 7 - 1 from rfl, Nat.and_two_pow_sub_one_eq_mod, BitVec.toNat_ofInt]
    unfold msk
    omega
  rw [e]
  exact wrapi_nat _ (by have := msk_lt c; omega)

theorem toNat_ofInt_mod (c : Int) : (BitVec.ofInt 64 c).toNat % 128 = msk c := by
  rw [BitVec.toNat_ofInt]; unfold msk; omega

theorem testBit_msk (c : Int) (i : Nat) (h : i < 7) : (BitVec.ofInt 64 c).toNat.testBit i = (msk c).testBit i := by
  rw [← toNat_ofInt_mod, show (128 : Nat) = 2 ^ 7 from rfl, Nat.testBit_mod_two_pow]
  simp [h]

theorem has_and (c : Int) (i : Nat) (h : i < 7) : (!(IntKind.i64.wrap ((BitVec.ofInt 64 c &&& BitVec.ofInt 64 (2 ^ i)).toNat : Nat) == 0)) = (msk c).testBit i := by
  have e : (BitVec.ofInt 64 (2 ^ i)).toNat = 2 ^ i := by
    rw [BitVec.toNat_ofInt]
    have : i = 0 ∨ i = 1 ∨ i = 2 ∨ i = 3 ∨ i = 4 ∨ i = 5 ∨ i = 6 := by omega
    rcases this with rfl | rfl | rfl | rfl | rfl | rfl | rfl <;> rfl
  have hlt : (2 ^ i : Nat) < 2 ^ 63 := Nat.pow_lt_pow_right (by decide) (by omega)
  rw [BitVec.toNat_and, e, ← testBit_msk c i h]
  generalize (BitVec.ofInt 64 c).toNat = n
  have hb : (n &&& 2 ^ i).testBit i = n.testBit i := by simp
  cases ht : n.testBit i with
  | true =>
    rw [ht] at hb
    have h0 : n &&& 2 ^ i ≠ 0 := fun h0 => by rw [h0] at hb; simp at hb
    have hle : n &&& 2 ^ i ≤ 2 ^ i := Nat.and_le_right
    rw [wrapi_nat _ (by omega)]
    simpa using h0
  | false =>
    have h0 : n &&& 2 ^ i = 0 := by
      apply Nat.eq_of_testBit_eq
      intro j
      rw [Nat.testBit_and, Nat.testBit_two_pow, Nat.zero_testBit]
      by_cases hij : i = j
      · subst hij; simp [ht]
      · simp [hij]
    rw [h0]
    rfl

theorem wrapu_msk (c : Int) : IntKind.u64.wrap c = (BitVec.ofInt 64 c).toNat := by
  rw [BitVec.toNat_ofInt]
  simp [IntKind.wrap, IntKind.bits, IntKind.signed]
  omega

theorem int_beq_nat (n m : Nat) : ((n : Int) == (m : Int)) = decide (n = m) := by
  by_cases hn : n = m
  · subst hn; simp
  · rw [decide_eq_false hn]; simp; omega

theorem has_shr (c : Int) (i : Nat) (h : i < 7) : (((IntKind.u64.wrap c).fdiv (2 ^ i)).tmod 2 == 1) = (msk c).testBit i := by
  rw [wrapu_msk, ← testBit_msk c i h, Nat.testBit_eq_decide_div_mod_eq]
  generalize (BitVec.ofInt 64 c).toNat = n
  have e : ((n : Int).fdiv (2 ^ i)).tmod 2 = ((n / 2 ^ i % 2 : Nat) : Int) := by
    have : i = 0 ∨ i = 1 ∨ i = 2 ∨ i = 3 ∨ i = 4 ∨ i = 5 ∨ i = 6 := by omega
    rcases this with rfl | rfl | rfl | rfl | rfl | rfl | rfl <;>
      (rw [Int.fdiv_eq_ediv_of_nonneg _ (by decide), Int.tmod_eq_emod_of_nonneg (by omega)]; simp)
  rw [e]
  exact int_beq_nat _ 1

/-- How many of the seven are in a set. -/
def pop (m : Nat) : Nat := (m.testBit 0).toNat + (m.testBit 1).toNat + (m.testBit 2).toNat + (m.testBit 3).toNat + (m.testBit 4).toNat + (m.testBit 5).toNat + (m.testBit 6).toNat

end Go.Proofs.Ytnephacfnbcdeaa
