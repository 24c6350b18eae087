/- What a text is filled up with, as the program makes it. -/
import Derived.Test.YtejejeginfjnjaaAiPlaceG
namespace Go.Proofs.Ytejejeginfjnjaa
open Go Go.AI
set_option linter.unusedVariables false

def S53 : List AV → Option AV
  | [.d (.int .i64 n)] => if 0 ≤ n ∧ n < 1125899906842624 then some (.d (.sl (cl (u8D (padB n.toNat))))) else none
  | _ => none

def padS (n i : Nat) : List Int := 128 :: (List.replicate (zN n) 0 ++ (List.replicate (8 - i) 0 ++ (tails n).drop (8 - i)))
def st53 (n i : Nat) : AS := ⟨[(4, .win 0 0 (9 + zN n) 1), (5, .d (.int .u64 ((8 * n : Nat) : Int))), (23, .d (.int .i64 i))], [.arr (cl (u8D (padS n i))) 1 1]⟩

theorem padLen {n : Nat} (hn : n < 1125899906842624) : IntKind.i64.wrap (IntKind.i64.wrap (1 + (IntKind.i64.wrap (119 - (if 576460752303423488 < if 0 > (n : Int) then 0 else (n : Int) then 576460752303423488 else if 0 > (n : Int) then 0 else (n : Int)).tmod 64)).tmod 64) + 8) = ((9 + zN n : Nat) : Int) := by
  have e1 : (if 576460752303423488 < if 0 > (n : Int) then 0 else (n : Int) then 576460752303423488 else if 0 > (n : Int) then 0 else (n : Int)) = (n : Int) := by
    simp only [gt_iff_lt]; repeat' split <;> omega
  have e2 : (n : Int).tmod 64 = ((n % 64 : Nat) : Int) := rfl
  have e3 : IntKind.i64.wrap (119 - ((n % 64 : Nat) : Int)) = ((119 - n % 64 : Nat) : Int) := by
    rw [wrap64_id (by omega) (by omega)]; omega
  have e4 : ((119 - n % 64 : Nat) : Int).tmod 64 = ((zN n : Nat) : Int) := rfl
  have := zN_lt n
  rw [e1, e2, e3, e4, wrap64_id (n := 1 + _) (by omega) (by omega), wrap64_id (by omega) (by omega)]
  omega
theorem padMul {n : Nat} (hn : n < 1125899906842624) : IntKind.u64.wrap (IntKind.u64.wrap (if 576460752303423488 < if 0 > (n : Int) then 0 else (n : Int) then 576460752303423488 else if 0 > (n : Int) then 0 else (n : Int)) * 2 ^ 3) = ((8 * n : Nat) : Int) := by
  have e1 : (if 576460752303423488 < if 0 > (n : Int) then 0 else (n : Int) then 576460752303423488 else if 0 > (n : Int) then 0 else (n : Int)) = (n : Int) := by
    simp only [gt_iff_lt]; repeat' split <;> omega
  rw [e1]
  simp [IntKind.wrap, IntKind.bits, IntKind.signed]; omega

theorem start53 (n : Nat) : (List.replicate ((9 + zN n : Nat) : Int).toNat [D.int .u8 0]).set (0 + Int.toNat 0 + 0) [D.int .u8 128] = cl (u8D (padS n 0)) := by
  rw [Int.toNat_natCast, show 9 + zN n = (zN n + 8) + 1 by omega, List.replicate_succ]
  show [D.int .u8 128] :: List.replicate (zN n + 8) [D.int .u8 0] = cl (u8D (128 :: (List.replicate (zN n) 0 ++ List.replicate 8 0)))
  rw [List.replicate_append_replicate]
  simp [cl, u8D]
theorem padS_len (n i : Nat) (hi : i ≤ 8) : (padS n i).length = 9 + zN n := by
  have h : (tails n).length = 8 := rfl
  simp [padS, h]; omega
theorem set_pad (z q : Nat) (A : List Int) (v : Int) : ((128 : Int) :: (List.replicate z 0 ++ A)).set (z + q + 1) v = 128 :: (List.replicate z 0 ++ A.set q v) := by
  rw [List.set_cons_succ, List.set_append]
  simp
  intro h; omega
theorem step53 {n k' p : Nat} (i : Nat) (hp : p = zN n + (7 - i) + 1) (hk : min k' IntKind.u64.bits = 8 * i)
    (hA : (List.replicate (8 - i) 0 ++ (tails n).drop (8 - i)).set (7 - i) (be8 n (8 * i)) = List.replicate (8 - (i + 1)) 0 ++ (tails n).drop (8 - (i + 1))) :
    (cl (u8D (padS n i))).set p [D.int .u8 (IntKind.u8.wrap (((8 * n : Nat) : Int).fdiv (2 ^ min k' IntKind.u64.bits)))] = cl (u8D (padS n (i + 1))) := by
  have e : IntKind.u8.wrap (((8 * n : Nat) : Int).fdiv (2 ^ min k' IntKind.u64.bits)) = be8 n (8 * i) := by
    rw [hk]
    have e2 : ((2 : Int) ^ (8 * i)) = ((2 ^ (8 * i) : Nat) : Int) := by simp
    rw [e2, Int.fdiv_eq_ediv_of_nonneg _ (Int.natCast_nonneg _), ← Int.natCast_ediv]
    simp [IntKind.wrap, IntKind.bits, IntKind.signed, be8]
  rw [e, cl_set8, hp]
  unfold padS
  rw [set_pad, hA]

theorem S53_ok : SpecOk Try.prog 53 S53 := by
  refine specF_of T_ok (tblNoZ_ok (tbl0_ok _)) mixed Try.func53 (by kernel_rfl) rfl (by kernel_rfl) ?_
  intro args res h
  unfold S53 at h
  split at h
  · rename_i n0
    split at h
    · rename_i hc
      obtain ⟨h1, h2⟩ := hc
      obtain ⟨n, rfl⟩ := Int.eq_ofNat_of_zero_le h1
      cases h
      refine ⟨by simp [Try.f53], rfl, rfl, ?_⟩
      rw [Int.toNat_natCast]
      repeat' (first | ((conv => whnf); intro _ _) | ((conv => whnf); refine And.intro ?_ ?_ <;> intro h <;> cases h) | ((conv => whnf); refine Or.inl ?_) | ((conv => whnf); refine And.intro (?_ : Side _) ?_) | fail)
      all_goals (conv => whnf)
      all_goals simp only [padLen (show n < 1125899906842624 by omega)]
      · have := zN_lt n
        exact ⟨by omega, Int.le_refl _, by show ((9 + zN n : Nat) : Int) * 1 ≤ _; omega, by omega⟩
      · have := zN_lt n
        exact ⟨⟨rfl, rfl⟩, Int.le_refl _, by rw [Int.toNat_natCast]; omega⟩
      · exact ⟨trivial, by rw [List.length_replicate, Int.toNat_natCast]; show 0 < _; omega⟩
      refine ⟨fun k σ => ∃ i, i ≤ 8 ∧ k = 8 - i ∧ σ = st53 n i, 8, ⟨st53 n 0, WeakN.perm [0] rfl rfl ?_ ⟨⟨rfl, rfl⟩, ⟨rfl, ?_⟩, ⟨rfl, rfl⟩, trivial⟩, 0, by omega, rfl, rfl⟩, ?_⟩
      · exact congrArg (fun z => [AObj.arr z 1 1]) (start53 n)
      · exact congrArg (fun z => AV.d (D.int .u64 z)) (padMul (by omega))
      rintro k σ ⟨i, hi, rfl, rfl⟩
      have hz := zN_lt n
      have hi : i = 0 ∨ i = 1 ∨ i = 2 ∨ i = 3 ∨ i = 4 ∨ i = 5 ∨ i = 6 ∨ i = 7 ∨ i = 8 := by omega
      rcases hi with rfl | rfl | rfl | rfl | rfl | rfl | rfl | rfl | rfl
      all_goals repeat' (first | ((conv => whnf); intro _ _) | ((conv => whnf); refine And.intro ?_ ?_ <;> intro h <;> cases h) | ((conv => whnf); refine And.intro (?_ : Side _) ?_) | fail)
      all_goals (conv => whnf)
      all_goals first
        | exact absurd (show true = decide _ from ‹_›) (by decide)
        | exact absurd (show false = decide _ from ‹_›) (by decide)
        | exact ⟨⟨rfl, rfl⟩, by rw [wrap64_id (n := _ - 1) (by omega) (by omega), wrap64_id (by omega) (by omega)]; omega, by rw [wrap64_id (n := _ - 1) (by omega) (by omega), wrap64_id (by omega) (by omega)]; omega⟩
        | exact ⟨rfl, by rw [wrap64_id (n := _ - 1) (by omega) (by omega), wrap64_id (by omega) (by omega), cl_length, u8D_length, padS_len _ _ (by omega)]; omega⟩
        | skip
      · exact ⟨8 - 1, st53 n 1, by omega, WeakN.perm [0] rfl rfl (congrArg (fun z => [AObj.arr z 1 1]) (step53 0 (by rw [wrap64_id (n := _ - 1) (by omega) (by omega), wrap64_id (by omega) (by omega)]; omega) rfl rfl)) ⟨⟨rfl, rfl⟩, ⟨rfl, rfl⟩, ⟨rfl, rfl⟩, trivial⟩, 1, by omega, rfl, rfl⟩
      · exact ⟨8 - 2, st53 n 2, by omega, WeakN.perm [0] rfl rfl (congrArg (fun z => [AObj.arr z 1 1]) (step53 1 (by rw [wrap64_id (n := _ - 1) (by omega) (by omega), wrap64_id (by omega) (by omega)]; omega) rfl rfl)) ⟨⟨rfl, rfl⟩, ⟨rfl, rfl⟩, ⟨rfl, rfl⟩, trivial⟩, 2, by omega, rfl, rfl⟩
      · exact ⟨8 - 3, st53 n 3, by omega, WeakN.perm [0] rfl rfl (congrArg (fun z => [AObj.arr z 1 1]) (step53 2 (by rw [wrap64_id (n := _ - 1) (by omega) (by omega), wrap64_id (by omega) (by omega)]; omega) rfl rfl)) ⟨⟨rfl, rfl⟩, ⟨rfl, rfl⟩, ⟨rfl, rfl⟩, trivial⟩, 3, by omega, rfl, rfl⟩
      · exact ⟨8 - 4, st53 n 4, by omega, WeakN.perm [0] rfl rfl (congrArg (fun z => [AObj.arr z 1 1]) (step53 3 (by rw [wrap64_id (n := _ - 1) (by omega) (by omega), wrap64_id (by omega) (by omega)]; omega) rfl rfl)) ⟨⟨rfl, rfl⟩, ⟨rfl, rfl⟩, ⟨rfl, rfl⟩, trivial⟩, 4, by omega, rfl, rfl⟩
      · exact ⟨8 - 5, st53 n 5, by omega, WeakN.perm [0] rfl rfl (congrArg (fun z => [AObj.arr z 1 1]) (step53 4 (by rw [wrap64_id (n := _ - 1) (by omega) (by omega), wrap64_id (by omega) (by omega)]; omega) rfl rfl)) ⟨⟨rfl, rfl⟩, ⟨rfl, rfl⟩, ⟨rfl, rfl⟩, trivial⟩, 5, by omega, rfl, rfl⟩
      · exact ⟨8 - 6, st53 n 6, by omega, WeakN.perm [0] rfl rfl (congrArg (fun z => [AObj.arr z 1 1]) (step53 5 (by rw [wrap64_id (n := _ - 1) (by omega) (by omega), wrap64_id (by omega) (by omega)]; omega) rfl rfl)) ⟨⟨rfl, rfl⟩, ⟨rfl, rfl⟩, ⟨rfl, rfl⟩, trivial⟩, 6, by omega, rfl, rfl⟩
      · exact ⟨8 - 7, st53 n 7, by omega, WeakN.perm [0] rfl rfl (congrArg (fun z => [AObj.arr z 1 1]) (step53 6 (by rw [wrap64_id (n := _ - 1) (by omega) (by omega), wrap64_id (by omega) (by omega)]; omega) rfl rfl)) ⟨⟨rfl, rfl⟩, ⟨rfl, rfl⟩, ⟨rfl, rfl⟩, trivial⟩, 7, by omega, rfl, rfl⟩
      · exact ⟨8 - 8, st53 n 8, by omega, WeakN.perm [0] rfl rfl (congrArg (fun z => [AObj.arr z 1 1]) (step53 7 (by rw [wrap64_id (n := _ - 1) (by omega) (by omega), wrap64_id (by omega) (by omega)]; omega) rfl rfl)) ⟨⟨rfl, rfl⟩, ⟨rfl, rfl⟩, ⟨rfl, rfl⟩, trivial⟩, 8, by omega, rfl, rfl⟩
      · refine (frz_win (off := 0) (n := 1) rfl Nat.one_pos).trans ?_
        rw [List.drop_zero, List.take_of_length_le (by rw [cl_length, u8D_length, padS_len _ _ (by omega)]; omega)]
        rfl
    · cases h
  · cases h
end Go.Proofs.Ytejejeginfjnjaa
