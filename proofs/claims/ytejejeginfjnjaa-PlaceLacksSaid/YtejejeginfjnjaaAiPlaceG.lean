/- What a text is filled up with, on both sides; what is told of eight words. -/
import Derived.Test.YtejejeginfjnjaaAiPlaceD
namespace Go.Proofs.Ytejejeginfjnjaa
open Go Go.AI
set_option linter.unusedVariables false

def zN (n : Nat) : Nat := (119 - n % 64) % 64
def be8 (n k : Nat) : Int := ((8 * n / 2 ^ k % 256 : Nat) : Int)
def tails (n : Nat) : List Int := [be8 n 56, be8 n 48, be8 n 40, be8 n 32, be8 n 24, be8 n 16, be8 n 8, be8 n 0]
def padB (n : Nat) : List Int := 128 :: (List.replicate (zN n) 0 ++ tails n)

def tblNoZ (tbl : Tbl) : Tbl := { tbl with z := fun _ _ => false }
theorem tblNoZ_ok {P : Program} {tbl : Tbl} (ht : TblOk P tbl) : TblOk P (tblNoZ tbl) := ⟨ht.c, ht.o, ht.it⟩

def S64 : List AV → Option AV
  | [.d (.int .i64 n)] => if 0 ≤ n ∧ n < 1125899906842624 then some (.d (.sl (cl (u8D (padB n.toNat))))) else none
  | _ => none

def st64 (n j : Nat) : AS := ⟨[(0, .d (.int .i64 n)), (3, .win 0 0 (1 + j) (1 + j))], [.arr (cl (u8D (128 :: List.replicate j 0))) 1 (1 + j)]⟩

def st64b (n i : Nat) : AS := ⟨[(0, .d (.int .i64 n)), (3, .win 0 0 (1 + zN n + i) (1 + zN n + i)), (4, .d (.int .i64 (56 - 8 * (i : Int))))], [.arr (cl (u8D (128 :: (List.replicate (zN n) 0 ++ (tails n).take i)))) 1 (1 + zN n + i)]⟩
theorem cl8_snoc (l : List Int) (v : Int) : cl (u8D l) ++ [[D.int .u8 v]] = cl (u8D (l ++ [v])) := by simp [cl, u8D]
theorem true_eq_not_iff' {b : Bool} : (true = !b) ↔ b = false := by cases b <;> simp
theorem false_eq_not_iff' {b : Bool} : (false = !b) ↔ b = true := by cases b <;> simp
theorem rem_eq {n : Nat} (m : Nat) (h : n < 9223372036854775808) : (IntKind.i64.wrap (n : Int)).tmod (m : Int) = ((n % m : Nat) : Int) := by
  rw [wrapi_nat n h]; rfl

theorem ap8 {off len g : Nat} {rs R : List (List D)} {v : Int} (h1 : off + len = rs.length) (hR : R = [[.int .u8 v]]) (hg : g ≠ 0) (hM : len + 1 ≤ 140737488355328) :
    Side (off + len = rs.length ∧ (∀ r ∈ R, r.length = ty5.size) ∧ 0 < ty5.size ∧ 0 < ty5.bytes ∧ (g = g ∧ g ≠ 0) ∧ 1 = ty5.size ∧ (len + R.length) * ty5.bytes ≤ 140737488355328) := by
  subst hR
  refine ⟨h1, fun r hr => ?_, Nat.one_pos, Nat.one_pos, ⟨rfl, hg⟩, rfl, ?_⟩
  · rw [List.mem_singleton] at hr; subst hr; rfl
  · show (len + 1) * 1 ≤ _
    omega

theorem zN_lt (n : Nat) : zN n < 64 := Nat.mod_lt _ (by omega)
theorem be8_of {n k k' : Nat} (hn : n < 1125899906842624) (hk : min k' IntKind.u64.bits = k) : IntKind.u8.wrap ((IntKind.u64.wrap (IntKind.i64.wrap (8 * (n : Int)))).fdiv (2 ^ min k' IntKind.u64.bits)) = be8 n k := by
  rw [hk]
  have e1 : IntKind.u64.wrap (IntKind.i64.wrap (8 * (n : Int))) = ((8 * n : Nat) : Int) := by
    simp [IntKind.wrap, IntKind.bits, IntKind.signed]; omega
  have e2 : ((2 : Int) ^ k) = ((2 ^ k : Nat) : Int) := by simp
  rw [e1, e2, Int.fdiv_eq_ediv_of_nonneg _ (Int.natCast_nonneg _), ← Int.natCast_ediv]
  simp [IntKind.wrap, IntKind.bits, IntKind.signed, be8]

theorem step64 {n k' : Nat} (i : Nat) (hn : n < 1125899906842624) (hb : (tails n).take i ++ [be8 n (min k' IntKind.u64.bits)] = (tails n).take (i + 1)) :
    cl (u8D (128 :: (List.replicate (zN n) 0 ++ (tails n).take i))) ++ [[D.int .u8 (IntKind.u8.wrap ((IntKind.u64.wrap (IntKind.i64.wrap (8 * (n : Int)))).fdiv (2 ^ min k' IntKind.u64.bits)))]] = cl (u8D (128 :: (List.replicate (zN n) 0 ++ (tails n).take (i + 1)))) := by
  rw [be8_of hn rfl, cl8_snoc, List.cons_append, List.append_assoc, hb]

theorem frz_win {ob : List AObj} {id off len g n : Nat} {rs : List (List D)} (h : ob[id]? = some (.arr rs n g)) (hn : 0 < n) : frz ob (.win id off len g) = .d (.sl ((rs.drop off).take len)) := by
  simp [frz, frz2, frz1, h, hn]

theorem S64_ok : SpecOk Try.prog 64 S64 := by
  refine specF_of T_ok (tblNoZ_ok (tbl0_ok _)) mixed Try.func64 (by kernel_rfl) rfl (by kernel_rfl) ?_
  intro args res h
  unfold S64 at h
  split at h
  · rename_i n0
    split at h
    · rename_i hc
      obtain ⟨h1, h2⟩ := hc
      obtain ⟨n, rfl⟩ := Int.eq_ofNat_of_zero_le h1
      cases h
      refine ⟨by simp [Try.f64], rfl, rfl, ?_⟩
      rw [Int.toNat_natCast]
      conv => whnf
      refine ⟨fun k σ => ∃ j, j ≤ zN n ∧ k = zN n - j ∧ σ = st64 n j, zN n, ⟨_, atL [(0, .d (.int .i64 n)), (3, .win 0 0 1 1)] ⟨congrArg (fun z => AV.d (D.int .i64 z)) (by simp only [gt_iff_lt]; repeat' split <;> omega), rfl, trivial⟩, 0, by omega, rfl, rfl⟩, ?_⟩
      rintro k σ ⟨j, hj, rfl, rfl⟩
      repeat' (first | ((conv => whnf); intro _ _) | ((conv => whnf); refine And.intro ?_ ?_ <;> intro h <;> cases h) | ((conv => whnf); refine Or.inl ?_) | ((conv => whnf); refine And.intro (?_ : Side _) ?_) | fail)
      all_goals (conv => whnf)
      all_goals first
        | exact ap8 (by rw [cl_length, u8D_length, List.length_cons, List.length_replicate]; omega) rfl (by omega) (by unfold zN at hj; omega)
        | skip
      · rename_i hb
        have hb := true_eq_not_iff'.1 hb
        rw [show ((n : Int) + ((1 + j : Nat) : Int)) = ((n + (1 + j) : Nat) : Int) by omega, show (64 : Int) = ((64 : Nat) : Int) from rfl, rem_eq 64 (by have := zN_lt n; omega)] at hb
        have hb : (n + (1 + j)) % 64 ≠ 56 := by intro h; rw [h] at hb; cases hb
        have hj1 : j + 1 ≤ zN n := by unfold zN at hj ⊢; omega
        refine ⟨zN n - (j + 1), st64 n (j + 1), by omega, WeakN.perm [0] rfl rfl ?_ ⟨⟨rfl, rfl⟩, ⟨rfl, rfl⟩, trivial⟩, j + 1, hj1, rfl, rfl⟩
        refine congrArg (fun z => [AObj.arr z 1 (1 + j + 1)]) ((cl8_snoc _ 0).trans ?_)
        rw [List.replicate_succ', List.cons_append]
      · rename_i hb
        have hb := false_eq_not_iff'.1 hb
        rw [show ((n : Int) + ((1 + j : Nat) : Int)) = ((n + (1 + j) : Nat) : Int) by omega, show (64 : Int) = ((64 : Nat) : Int) from rfl, rem_eq 64 (by have := zN_lt n; omega)] at hb
        have hb : (n + (1 + j)) % 64 = 56 := by have := eq_of_beq hb; omega
        have hjz : j = zN n := by unfold zN at hj ⊢; omega
        subst hjz
        refine ⟨fun k σ => ∃ i, i ≤ 8 ∧ k = 8 - i ∧ σ = st64b n i, 8, ⟨st64b n 0, WeakN.perm [0] rfl rfl ?_ ⟨⟨rfl, rfl⟩, ⟨rfl, rfl⟩, ⟨rfl, rfl⟩, trivial⟩, 0, by omega, rfl, rfl⟩, ?_⟩
        · refine congrArg (fun z => [AObj.arr z 1 (1 + zN n)]) ?_
          rw [List.take_zero, List.append_nil]
        rintro k σ ⟨i, hi, rfl, rfl⟩
        have hi : i = 0 ∨ i = 1 ∨ i = 2 ∨ i = 3 ∨ i = 4 ∨ i = 5 ∨ i = 6 ∨ i = 7 ∨ i = 8 := by omega
        rcases hi with rfl | rfl | rfl | rfl | rfl | rfl | rfl | rfl | rfl
        all_goals repeat' (first | ((conv => whnf); intro _ _) | ((conv => whnf); refine And.intro ?_ ?_ <;> intro h <;> cases h) | ((conv => whnf); refine Or.inl ?_) | ((conv => whnf); refine And.intro (?_ : Side _) ?_) | fail)
        all_goals (conv => whnf)
        all_goals first
          | exact ap8 (by rw [cl_length, u8D_length, List.length_cons, List.length_append, List.length_replicate]; simp [tails]; omega) rfl (by omega) (by have := zN_lt n; omega)
          | exact absurd (show true = decide _ from ‹_›) (by decide)
          | exact absurd (show false = decide _ from ‹_›) (by decide)
          | skip
        · exact ⟨8 - 1, st64b n 1, by omega, WeakN.perm [0] rfl rfl (congrArg (fun z => [AObj.arr z 1 (1 + zN n + 0 + 1)]) (step64 0 (by omega) rfl)) ⟨⟨rfl, rfl⟩, ⟨rfl, rfl⟩, ⟨rfl, rfl⟩, trivial⟩, 1, by omega, rfl, rfl⟩
        · exact ⟨8 - 2, st64b n 2, by omega, WeakN.perm [0] rfl rfl (congrArg (fun z => [AObj.arr z 1 (1 + zN n + 1 + 1)]) (step64 1 (by omega) rfl)) ⟨⟨rfl, rfl⟩, ⟨rfl, rfl⟩, ⟨rfl, rfl⟩, trivial⟩, 2, by omega, rfl, rfl⟩
        · exact ⟨8 - 3, st64b n 3, by omega, WeakN.perm [0] rfl rfl (congrArg (fun z => [AObj.arr z 1 (1 + zN n + 2 + 1)]) (step64 2 (by omega) rfl)) ⟨⟨rfl, rfl⟩, ⟨rfl, rfl⟩, ⟨rfl, rfl⟩, trivial⟩, 3, by omega, rfl, rfl⟩
        · exact ⟨8 - 4, st64b n 4, by omega, WeakN.perm [0] rfl rfl (congrArg (fun z => [AObj.arr z 1 (1 + zN n + 3 + 1)]) (step64 3 (by omega) rfl)) ⟨⟨rfl, rfl⟩, ⟨rfl, rfl⟩, ⟨rfl, rfl⟩, trivial⟩, 4, by omega, rfl, rfl⟩
        · exact ⟨8 - 5, st64b n 5, by omega, WeakN.perm [0] rfl rfl (congrArg (fun z => [AObj.arr z 1 (1 + zN n + 4 + 1)]) (step64 4 (by omega) rfl)) ⟨⟨rfl, rfl⟩, ⟨rfl, rfl⟩, ⟨rfl, rfl⟩, trivial⟩, 5, by omega, rfl, rfl⟩
        · exact ⟨8 - 6, st64b n 6, by omega, WeakN.perm [0] rfl rfl (congrArg (fun z => [AObj.arr z 1 (1 + zN n + 5 + 1)]) (step64 5 (by omega) rfl)) ⟨⟨rfl, rfl⟩, ⟨rfl, rfl⟩, ⟨rfl, rfl⟩, trivial⟩, 6, by omega, rfl, rfl⟩
        · exact ⟨8 - 7, st64b n 7, by omega, WeakN.perm [0] rfl rfl (congrArg (fun z => [AObj.arr z 1 (1 + zN n + 6 + 1)]) (step64 6 (by omega) rfl)) ⟨⟨rfl, rfl⟩, ⟨rfl, rfl⟩, ⟨rfl, rfl⟩, trivial⟩, 7, by omega, rfl, rfl⟩
        · exact ⟨8 - 8, st64b n 8, by omega, WeakN.perm [0] rfl rfl (congrArg (fun z => [AObj.arr z 1 (1 + zN n + 7 + 1)]) (step64 7 (by omega) rfl)) ⟨⟨rfl, rfl⟩, ⟨rfl, rfl⟩, ⟨rfl, rfl⟩, trivial⟩, 8, by omega, rfl, rfl⟩
        · refine (frz_win (off := 0) (n := 1) rfl Nat.one_pos).trans ?_
          have e8 : (tails n).take 8 = tails n := rfl
          rw [List.drop_zero, e8, List.take_of_length_le (by rw [cl_length, u8D_length, List.length_cons, List.length_append, List.length_replicate]; simp [tails]; omega)]
          rfl
    · cases h
  · cases h
end Go.Proofs.Ytejejeginfjnjaa
