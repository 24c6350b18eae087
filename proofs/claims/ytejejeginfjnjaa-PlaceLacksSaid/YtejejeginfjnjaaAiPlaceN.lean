/- Both make the same of a block: the plain law. -/
import Derived.Test.YtejejeginfjnjaaAiPlaceF
namespace Go.Proofs.Ytejejeginfjnjaa
open Go Go.AI
set_option linter.unusedVariables false

theorem w32_mod (n : Int) : w32 n = n % 4294967296 := by simp [w32, IntKind.wrap, IntKind.bits, IntKind.signed]
theorem ofInt_w32 (x : BitVec 32) : BitVec.ofInt 32 (w32 (x.toNat : Int)) = x := by
  have h := x.isLt
  rw [w32_mod, Int.emod_eq_of_lt (by omega) (by omega)]
  simp
theorem rotP_eq (x : Int) (n : Nat) : rotP x n = rotQ x n := by
  simp only [rotP, rotQ, or32, BitVec.or_comm]
theorem choose_eq (e f g : Int) : xor32 g (and32 e (xor32 f g)) = xor32 (and32 e f) (and32 (not32 e) g) := by
  have hm : BitVec.ofInt 32 IntKind.u32.max = BitVec.allOnes 32 := by decide
  simp only [xor32, and32, not32, ofInt_w32, hm]
  congr 3
  ext i hi
  simp only [BitVec.getElem_xor, BitVec.getElem_and, BitVec.getElem_allOnes]
  cases (BitVec.ofInt 32 e)[i] <;> cases (BitVec.ofInt 32 f)[i] <;> cases (BitVec.ofInt 32 g)[i] <;> rfl
theorem most_eq (a b c : Int) : or32 (and32 a b) (and32 c (or32 a b)) = xor32 (xor32 (and32 a b) (and32 a c)) (and32 b c) := by
  simp only [xor32, and32, or32, ofInt_w32]
  congr 3
  ext i hi
  simp only [BitVec.getElem_xor, BitVec.getElem_and, BitVec.getElem_or]
  cases (BitVec.ofInt 32 a)[i] <;> cases (BitVec.ofInt 32 b)[i] <;> cases (BitVec.ofInt 32 c)[i] <;> rfl
theorem round_eq (s : W8) (k w : Int) : roundP s k w = roundQ s k w := by
  simp only [roundP, roundQ, xP, xQ, yP, yQ, rotP_eq, choose_eq, most_eq]
theorem rounds_eq (W : List Int) (s : W8) (i : Nat) : roundsP W s i = roundsQ W s i := by
  induction i with
  | zero => rfl
  | succ i ih => rw [roundsP, roundsQ, ih, round_eq]
theorem adds_eq (H S : W8) : addsP H.list S.list 8 = addsQ S.list H.list 8 := by
  simp [addsP, addsQ, W8.list, Int.add_comm]
theorem blockW_eq (W : List Int) (H : W8) : blockW W H = blockWQ W H := by
  rw [blockW, blockWQ, rounds_eq, adds_eq]

theorem or_add (a x : Nat) (ha : a < 16777216) (hx : x < 256) : step8 (a : Int) (x : Int) = ((a * 256 + x : Nat) : Int) := by
  have e1 : w32 ((a : Int) * 2 ^ 8) = ((a * 256 : Nat) : Int) := by rw [w32_mod]; omega
  have e2 : w32 (x : Int) = (x : Int) := by rw [w32_mod]; omega
  have e3 : a * 256 ||| x = a * 256 + x := by
    have := Nat.shiftLeft_add_eq_or_of_lt (show x < 2 ^ 8 by omega) a
    rw [Nat.shiftLeft_eq] at this
    exact this.symm
  rw [step8, e1, e2, or32, BitVec.ofInt_natCast, BitVec.ofInt_natCast, BitVec.toNat_or, BitVec.toNat_ofNat, BitVec.toNat_ofNat, Nat.mod_eq_of_lt (by omega), Nat.mod_eq_of_lt (by omega), e3, w32_mod]
  omega

def isB (l : List Int) : Prop := ∀ x ∈ l, 0 ≤ x ∧ x < 256
theorem isB_get {l : List Int} (h : isB l) (i : Nat) : ∃ n : Nat, n < 256 ∧ l.getD i 0 = (n : Int) := by
  rcases Nat.lt_or_ge i l.length with hi | hi
  · have h2 := h l[i] (List.getElem_mem hi)
    refine ⟨l[i].toNat, by omega, ?_⟩
    rw [List.getD_eq_getElem?_getD, List.getElem?_eq_getElem hi]
    show l[i] = _
    omega
  · exact ⟨0, by omega, by rw [List.getD_eq_getElem?_getD, List.getElem?_eq_none hi]; rfl⟩

theorem part4 {B L : List Int} {i : Nat} (hi : i < L.length) (h0 : L.getD i 0 = 0) :
    partP B L i 4 = L.set i (step8 (step8 (step8 (step8 0 (B.getD (4 * i + 0) 0)) (B.getD (4 * i + 1) 0)) (B.getD (4 * i + 2) 0)) (B.getD (4 * i + 3) 0)) := by
  have hg : ∀ v : Int, (L.set i v).getD i 0 = v := by
    intro v
    simp [List.getD_eq_getElem?_getD, hi]
  simp only [partP, h0, hg, List.set_set]

theorem wordsQ_zero (B : List Int) : ∀ (i j : Nat), i ≤ j → (wordsQ B i).getD j 0 = 0
  | 0, j, _ => by
    show (List.replicate 64 (0 : Int)).getD j 0 = 0
    rw [List.getD_eq_getElem?_getD, List.getElem?_replicate]
    split <;> rfl
  | i + 1, j, h => by
    have := wordsQ_zero B i j (by omega)
    rw [List.getD_eq_getElem?_getD] at this
    rw [wordsQ, List.getD_eq_getElem?_getD, List.getElem?_set_ne (by omega)]
    exact this

theorem words_eq {B : List Int} (hB : isB B) : ∀ (i : Nat), i ≤ 64 → wordsP B i = wordsQ B i
  | 0, _ => rfl
  | i + 1, hi => by
    have ih := words_eq hB i (by omega)
    rw [wordsP, wordsQ, ih]
    by_cases h : i < 16
    · rw [if_pos h, part4 (by rw [wordsQ_length]; omega) (wordsQ_zero B i i (Nat.le_refl i))]
      congr 1
      rw [wordQ, if_pos h]
      obtain ⟨a, ha, ea⟩ := isB_get hB (4 * i + 0)
      obtain ⟨b, hb, eb⟩ := isB_get hB (4 * i + 1)
      obtain ⟨c, hc, ec⟩ := isB_get hB (4 * i + 2)
      obtain ⟨d, hd, ed⟩ := isB_get hB (4 * i + 3)
      rw [Nat.add_zero] at ea
      rw [Nat.add_zero, ea, eb, ec, ed]
      rw [show (0 : Int) = ((0 : Nat) : Int) from rfl, or_add 0 a (by omega) ha, or_add _ b (by omega) hb, or_add _ c (by omega) hc, or_add _ d (by omega) hd]
      simp only [w32_mod]
      omega
    · rw [if_neg h, wordQ, if_neg h]
      simp only [lowBP, lowAP, rotP_eq]

theorem block_eq (H : W8) {B : List Int} (hB : isB B) : blockP H B = blockQ H B := by
  rw [blockP, blockQ, words_eq hB 64 (Nat.le_refl _), blockW_eq]
end Go.Proofs.Ytejejeginfjnjaa
