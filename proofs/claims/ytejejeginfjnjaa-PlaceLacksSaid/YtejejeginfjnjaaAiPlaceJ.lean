/- The sum of bytes, as the document makes it. -/
import Derived.Test.YtejejeginfjnjaaAiPlaceF
import Derived.Test.YtejejeginfjnjaaAiPlaceI
namespace Go.Proofs.Ytejejeginfjnjaa
open Go Go.AI
set_option linter.unusedVariables false

def toW8 (l : List Int) : W8 := ⟨l.getD 0 0, l.getD 1 0, l.getD 2 0, l.getD 3 0, l.getD 4 0, l.getD 5 0, l.getD 6 0, l.getD 7 0⟩
theorem toW8_list {l : List Int} (h : l.length = 8) : l = (toW8 l).list := by
  obtain ⟨s, rfl⟩ := w8_of h
  rfl
def runQ (A : List Int) : Nat → List Int
  | 0 => H8
  | q + 1 => blockQ (toW8 (runQ A q)) ((A.drop (64 * q)).take 64)
theorem blockQ_length (H : W8) (B : List Int) : (blockQ H B).length = 8 := addsQ_length _ _ _
theorem runQ_length (A : List Int) (q : Nat) : (runQ A q).length = 8 := by
  cases q with
  | zero => rfl
  | succ q => exact blockQ_length _ _
def allB (bs : List Int) : List Int := bs ++ padB bs.length
def sumQ (bs : List Int) : List UInt8 := toldB (runQ (allB bs) ((allB bs).length / 64))
theorem padB_length (n : Nat) : (padB n).length = 9 + zN n := by
  have h : (tails n).length = 8 := rfl
  simp [padB, h]; omega
theorem allB_length (bs : List Int) : (allB bs).length = 64 * ((allB bs).length / 64) := by
  have : (allB bs).length = bs.length + (9 + zN bs.length) := by rw [allB, List.length_append, padB_length]
  rw [this]
  unfold zN
  omega

def cpL (A : List Int) (q j : Nat) : List Int := (A.drop (64 * q)).take j ++ List.replicate (64 - j) 0
def ob37 (bs A H : List Int) : List AObj := [.arr (cl (u8D bs)) 1 2, .arr (cl (u8D A)) 1 2, .arr (cl (u32D H)) 1 0]
def st37 (bs A H : List Int) (q : Nat) : AS := ⟨[(3, .win 1 0 A.length 2), (4, .ptr 2 0 0 0), (5, .d (.int .i64 ((64 * q : Nat) : Int)))], ob37 bs A H⟩
def st37b (bs A H : List Int) (q j : Nat) : AS := ⟨[(3, .win 1 0 A.length 2), (4, .ptr 2 0 0 0), (5, .d (.int .i64 ((64 * q : Nat) : Int))), (6, .ptr 3 0 0 0), (7, .d (.int .i64 j))], ob37 bs A H ++ [.arr (cl (u8D (cpL A q j))) 1 0]⟩

theorem ob37_eq {bs A H : List Int} {a b : List (List D)} (ha : a = cl (u8D A)) (hb : b = cl (u32D H)) : [AObj.arr (cl (u8D bs)) 1 2, .arr a 1 2, .arr b 1 0] = ob37 bs A H := by
  subst ha hb; rfl
theorem cpL_len {A : List Int} {q j : Nat} (h : 64 * q + 64 ≤ A.length) (hj : j ≤ 64) : (cpL A q j).length = 64 := by
  simp [cpL]; omega
theorem cpL_full {A : List Int} {q : Nat} : cpL A q 64 = (A.drop (64 * q)).take 64 := by simp [cpL]
theorem cpL_set {A : List Int} {q j p r : Nat} (h : 64 * q + 64 ≤ A.length) (hj : j < 64) (hp : p = j) (hr : r = 64 * q + j) : (cl (u8D (cpL A q j))).set p [D.int .u8 (A.getD r 0)] = cl (u8D (cpL A q (j + 1))) := by
  subst hp hr
  rw [cl_set8]
  congr 2
  have h1 : ((A.drop (64 * q)).take p).length = p := by simp; omega
  unfold cpL
  rw [show 64 - p = (64 - (p + 1)) + 1 by omega, List.set_append, if_neg (by omega), h1, Nat.sub_self, List.replicate_succ, List.set_cons_zero, List.take_add_one]
  simp [show 64 * q + p < A.length by omega, List.getD_eq_getElem?_getD]
theorem eR8 (l : List Int) : ∀ r ∈ cl (u8D l), r.length = ty5.size := by
  intro r hr
  simp [cl, u8D] at hr
  obtain ⟨_, _, rfl⟩ := hr
  rfl
theorem rows4 (x : Int) : ((((List.replicate 4 [D.int .u8 0]).set 0 [D.int .u8 (IntKind.u8.wrap (x.fdiv (2 ^ min 24 IntKind.u32.bits)))]).set 1 [D.int .u8 (IntKind.u8.wrap (x.fdiv (2 ^ min 16 IntKind.u32.bits)))]).set 2 [D.int .u8 (IntKind.u8.wrap (x.fdiv (2 ^ min 8 IntKind.u32.bits)))]).set 3 [D.int .u8 (IntKind.u8.wrap x)] = cl (u8D (wordB x)) := by
  have : wordB x = [IntKind.u8.wrap (x.fdiv (2 ^ 24)), IntKind.u8.wrap (x.fdiv (2 ^ 16)), IntKind.u8.wrap (x.fdiv (2 ^ 8)), IntKind.u8.wrap x] := by simp [wordB]
  rw [this]; rfl
theorem apN {R : List (List D)} {l : List Int} (hR : R = cl (u8D l)) (hM : l.length ≤ 140737488355328) : Side ((∀ r ∈ R, r.length = ty5.size) ∧ 0 < ty5.size ∧ 0 < ty5.bytes ∧ R.length * ty5.bytes ≤ 140737488355328) := by
  subst hR
  exact ⟨eR8 _, Nat.one_pos, Nat.one_pos, by rw [cl_length, u8D_length]; show l.length * 1 ≤ _; omega⟩
theorem apW {off len g : Nat} {rs R : List (List D)} {l : List Int} (h1 : off + len = rs.length) (hR : R = cl (u8D l)) (hg : g ≠ 0) (hM : len + l.length ≤ 140737488355328) :
    Side (off + len = rs.length ∧ (∀ r ∈ R, r.length = ty5.size) ∧ 0 < ty5.size ∧ 0 < ty5.bytes ∧ (g = g ∧ g ≠ 0) ∧ 1 = ty5.size ∧ (len + R.length) * ty5.bytes ≤ 140737488355328) := by
  subst hR
  exact ⟨h1, eR8 _, Nat.one_pos, Nat.one_pos, ⟨rfl, hg⟩, rfl, by rw [cl_length, u8D_length]; show (len + l.length) * 1 ≤ _; omega⟩
theorem cl8_app (a b : List Int) : cl (u8D a) ++ cl (u8D b) = cl (u8D (a ++ b)) := by simp [cl, u8D]
theorem tellN {H : List Int} {i : Nat} {R : List (List D)} (h : H.length = 8) (hi : i < 8) (hR : R = cl (u8D (wordB (H.getD i 0)))) : List.drop 0 (cl (u8D (toldI (H.take i)))) ++ R = cl (u8D (toldI (H.take (i + 1)))) := by
  have e : H.take (i + 1) = H.take i ++ [H.getD i 0] := by
    rw [List.take_add_one, List.getD_eq_getElem?_getD]
    simp [show i < H.length by omega]
  rw [hR, List.drop_zero, cl8_app, e, toldI_snoc]
theorem tell1 {H : List Int} {R : List (List D)} (h : H.length = 8) (hR : R = cl (u8D (wordB (H.getD 0 0)))) : R = cl (u8D (toldI (H.take 1))) := by
  have := tellN (i := 0) h (by omega) hR
  simpa [toldI, cl, u8D] using this
def st37c (bs A H : List Int) (i : Nat) : AS := ⟨[(4, .ptr 2 0 0 0), (8, match i with | 0 => .nils | i + 1 => .win 3 0 (4 * (i + 1)) (i + 1)), (9, .d (.int .i64 i))], ob37 bs A H ++ (match i with | 0 => [] | i + 1 => [.arr (cl (u8D (toldI (H.take (i + 1))))) 1 (i + 1)])⟩
def S37 : List AV → List AObj → Option (AV × List AObj)
  | [.win 0 0 len 2], [.arr rs 1 2] => if rs.all row8 = true ∧ len = rs.length ∧ rs.length < 1099511627776 then some (.d (.str (sumQ (rs.map rowN))), [.arr rs 1 2]) else none
  | _, _ => none

def tblZ (n : Nat) (tbl : Tbl) : Tbl := { tbl with z := fun _ m => m == n }
theorem tblZ_ok {P : Program} {n : Nat} {tbl : Tbl} (ht : TblOk P tbl) : TblOk P (tblZ n tbl) := ⟨ht.c, ht.o, ht.it⟩

set_option maxHeartbeats 1000000 in
theorem S37_ok : SpecO Try.prog 37 S37 := by
  obtain ⟨f66, hf66⟩ : ∃ f, f = S66 := ⟨_, rfl⟩
  obtain ⟨f64, hf64⟩ : ∃ f, f = S64 := ⟨_, rfl⟩
  have htb : TblOk Try.prog (tblZ 4 (tblAdd 66 f66 (tblAdd 64 f64 (tblAdd 65 S65 (tblCv 53 1 (tblA 73 (tblA 75 tbl0))))))) := by
    subst hf66 hf64
    exact tblZ_ok (tblAdd_ok S66_ok (tblAdd_ok S64_ok (tblAdd_ok S65_ok (tblCv_ok (tblA_ok (tblA_ok (tbl0_ok _)))))))
  refine specO_of T_ok htb mixed Try.func37 (by kernel_rfl) rfl (by kernel_rfl) ?_
  intro args objs r objs' h
  unfold S37 at h
  split at h
  · rename_i len rs
    split at h
    · rename_i hc
      obtain ⟨h1, h2, h3⟩ := hc
      have h1 := cl8_of h1
      generalize rs.map rowN = bs at h1 h
      subst h1
      subst h2
      cases h
      rw [cl_length, u8D_length] at h3 ⊢
      refine ⟨by simp [Try.f37], ?_⟩
      have e64 : f64 [.d (.int .i64 (bs.length : Int))] = some (.d (.sl (cl (u8D (padB bs.length))))) := by
        rw [hf64]
        simp only [S64]
        rw [if_pos ⟨by omega, by omega⟩, Int.toNat_natCast]
      have e66 : ∀ H B : List Int, H.length = 8 → B.length = 64 → f66 [.ar (u32D H), .ar (u8D B)] = some (.ar (u32D (blockQ (toW8 H) B))) := by
        intro H B hH hB
        obtain ⟨s, rfl⟩ := w8_of hH
        rw [hf66]
        have e1 : (u8D B).all isU8 = true := by simp [u8D, isU8]
        have e2 : (u8D B).map numD = B := by simp [u8D, numD, Function.comp_def]
        have e3 : (u32D s.list).all isU32 = true := by simp [u32D, isU32]
        have e4 : (u32D s.list).map numD = s.list := by simp [u32D, numD, Function.comp_def]
        simp only [S66]
        rw [if_pos ⟨⟨e3, rfl⟩, e1, by rw [u8D_length, hB]⟩, e2, e4]
        rfl
      clear hf66 hf64
      repeat' (first | ((conv => whnf); intro _ _) | ((conv => whnf); refine And.intro ?_ ?_ <;> intro h <;> cases h) | ((conv => whnf); refine Or.inl ?_) | ((conv => whnf); refine ldAll ?_ ?_) | ((conv => whnf); refine And.intro (?_ : Side _) ?_) | fail)
      all_goals (conv => whnf)
      have et : List.take bs.length (List.drop 0 (cl (u8D bs))) = cl (u8D bs) := List.take_of_length_le (by rw [List.length_drop, cl_length, u8D_length]; omega)
      · rw [et]
        exact ⟨eR8 bs, Nat.one_pos, Nat.one_pos, by rw [cl_length, u8D_length]; show bs.length * 1 ≤ _; omega⟩
      have et : List.take bs.length (List.drop 0 (cl (u8D bs))) = cl (u8D bs) := List.take_of_length_le (by rw [List.length_drop, cl_length, u8D_length]; omega)
      generalize hX : Tbl.c _ _ _ = X
      cases (hX.symm.trans e64 : X = some _)
      clear hX
      have hz := zN_lt bs.length
      repeat' (first | ((conv => whnf); intro _ _) | ((conv => whnf); refine And.intro ?_ ?_ <;> intro h <;> cases h) | ((conv => whnf); refine Or.inl ?_) | ((conv => whnf); refine ldAll ?_ ?_) | ((conv => whnf); refine And.intro (?_ : Side _) ?_) | fail)
      all_goals (conv => whnf)
      · rw [et]
        exact ⟨by omega, eR8 _, Nat.one_pos, Nat.one_pos, ⟨rfl, by decide⟩, rfl, by rw [cl_length, cl_length, u8D_length, u8D_length, padB_length]; show (_ + _) * 1 ≤ _; omega⟩
      · exact ⟨⟨rfl, rfl⟩, rfl, Nat.le_refl _⟩
      have eA : List.drop 0 (List.take bs.length (List.drop 0 (cl (u8D bs)))) ++ cl (u8D (padB bs.length)) = cl (u8D (allB bs)) := by
        rw [List.drop_zero, et]
        simp [allB, cl, u8D]
      have eL : (List.take bs.length (List.drop 0 (cl (u8D bs)))).length + (cl (u8D (padB bs.length))).length = (allB bs).length := by
        rw [et, allB, List.length_append, cl_length, cl_length, u8D_length, u8D_length]
      have hAl : (allB bs).length < 2199023255552 := by rw [← eL, et, cl_length, cl_length, u8D_length, u8D_length, padB_length]; omega
      have hA := allB_length bs
      unfold sumQ
      obtain ⟨m, hm⟩ : ∃ m, m = (allB bs).length / 64 := ⟨_, rfl⟩
      rw [← hm] at hA ⊢
      clear hm e64
      refine ⟨fun k σ => ∃ q, q ≤ m ∧ k = m - q ∧ σ = st37 bs (allB bs) (runQ (allB bs) q) q, m, ⟨st37 bs (allB bs) H8 0, WeakN.perm [0, 1, 2] rfl rfl (ob37_eq eA (setR_all rfl)) ⟨⟨rfl, congrArg (fun z => AV.win 1 0 z 2) eL⟩, ⟨rfl, rfl⟩, ⟨rfl, rfl⟩, trivial⟩, 0, by omega, rfl, rfl⟩, ?_⟩
      generalize allB bs = A at *
      clear eA eL et hz
      rintro k σ ⟨q, hq, rfl, rfl⟩
      have hH := runQ_length A q
      generalize hHe : runQ A q = H at hH
      repeat' (first | ((conv => whnf); intro _ _) | ((conv => whnf); refine And.intro ?_ ?_ <;> intro h <;> cases h) | ((conv => whnf); refine Or.inl ?_) | ((conv => whnf); refine ldAll ?_ ?_) | ((conv => whnf); refine And.intro (?_ : Side _) ?_) | fail)
      all_goals (conv => whnf)
      all_goals simp only [true_eq_decide_iff, false_eq_decide_iff] at *
      · refine ⟨fun k σ => ∃ j, j ≤ 64 ∧ k = 64 - j ∧ σ = st37b bs A H q j, 64, ⟨st37b bs A H q 0, WeakN.perm [0, 1, 2, 3] rfl rfl rfl ⟨⟨rfl, rfl⟩, ⟨rfl, rfl⟩, ⟨rfl, rfl⟩, ⟨rfl, rfl⟩, ⟨rfl, rfl⟩, trivial⟩, 0, by omega, rfl, rfl⟩, ?_⟩
        rintro k σ ⟨j, hj, rfl, rfl⟩
        repeat' (first | ((conv => whnf); intro _ _) | ((conv => whnf); refine And.intro ?_ ?_ <;> intro h <;> cases h) | ((conv => whnf); refine ld8 ?_ ?_) | ((conv => whnf); refine ldAll ?_ ?_) | ((conv => whnf); refine And.intro (?_ : Side _) ?_) | fail)
        all_goals (conv => whnf)
        all_goals simp only [true_eq_decide_iff, false_eq_decide_iff] at *
        · have hw : IntKind.i64.wrap (((64 * q : Nat) : Int) + (j : Int)) = ((64 * q + j : Nat) : Int) := by rw [wrap64_id (by omega) (by omega)]; omega
          rw [hw]
          exact ⟨⟨rfl, rfl⟩, by omega, by omega⟩
        · have hw : IntKind.i64.wrap (((64 * q : Nat) : Int) + (j : Int)) = ((64 * q + j : Nat) : Int) := by rw [wrap64_id (by omega) (by omega)]; omega
          rw [hw, Int.toNat_natCast]
          exact ⟨trivial, by omega⟩
        · exact ⟨⟨by omega, by omega⟩, trivial, trivial, rfl⟩
        · exact ⟨trivial, by rw [cl_length, u8D_length, cpL_len (by omega) hj]; omega⟩
        · have hw : IntKind.i64.wrap (((64 * q : Nat) : Int) + (j : Int)) = ((64 * q + j : Nat) : Int) := by rw [wrap64_id (by omega) (by omega)]; omega
          exact ⟨64 - (j + 1), st37b bs A H q (j + 1), by omega, WeakN.perm [0, 1, 2, 3] rfl rfl (congrArg (fun z => ob37 bs A H ++ [AObj.arr z 1 0]) (cpL_set (by omega) (by omega) (by omega) (by rw [hw, Int.toNat_natCast]; omega))) ⟨⟨rfl, rfl⟩, ⟨rfl, rfl⟩, ⟨rfl, rfl⟩, ⟨rfl, rfl⟩, ⟨rfl, congrArg (fun z => AV.d (D.int .i64 z)) (wi (m := j + 1) (by omega) (by omega))⟩, trivial⟩, j + 1, by omega, rfl, rfl⟩
        · exact ⟨trivial, by rw [u32D_length, hH]; rfl⟩
        · exact ⟨trivial, by rw [u8D_length, cpL_len (by omega) hj]; rfl⟩
        have : j = 64 := by omega
        subst this
        have e := e66 H (cpL A q 64) hH (cpL_len (by omega) hj)
        generalize hX : Tbl.c _ _ _ = X
        cases (hX.symm.trans e : X = some _)
        clear hX e
        repeat' (first | ((conv => whnf); intro _ _) | ((conv => whnf); refine And.intro ?_ ?_ <;> intro h <;> cases h) | ((conv => whnf); refine And.intro (?_ : Side _) ?_) | fail)
        all_goals (conv => whnf)
        · exact ⟨⟨rfl, rfl⟩, by rw [u32D_length, blockQ_length]; rfl, by rw [u32D_length, blockQ_length, cl_length, u32D_length, hH]; decide⟩
        · refine ⟨m - (q + 1), st37 bs A (runQ A (q + 1)) (q + 1), by omega, WeakN.perm [0, 1, 2] rfl rfl (ob37_eq rfl ?_) ⟨⟨rfl, rfl⟩, ⟨rfl, rfl⟩, ⟨rfl, congrArg (fun z => AV.d (D.int .i64 z)) (wi (m := 64 * (q + 1)) (by omega) (by omega))⟩, trivial⟩, q + 1, by omega, rfl, rfl⟩
          rw [runQ, hHe, ← cpL_full]
          exact setR_all (by rw [List.length_map, u32D_length, blockQ_length, cl_length, u32D_length, hH])
      · have : q = m := by omega
        subst this
        refine ⟨fun k σ => ∃ i, i ≤ 8 ∧ k = 8 - i ∧ σ = st37c bs A H i, 8, ⟨st37c bs A H 0, WeakN.perm [0, 1, 2] rfl rfl rfl ⟨⟨rfl, rfl⟩, ⟨rfl, rfl⟩, ⟨rfl, rfl⟩, trivial⟩, 0, by omega, rfl, rfl⟩, ?_⟩
        rintro k σ ⟨i, hi, rfl, rfl⟩
        have hi : i = 0 ∨ i = 1 ∨ i = 2 ∨ i = 3 ∨ i = 4 ∨ i = 5 ∨ i = 6 ∨ i = 7 ∨ i = 8 := by omega
        rcases hi with rfl | rfl | rfl | rfl | rfl | rfl | rfl | rfl | rfl
        all_goals repeat' (first | ((conv => whnf); intro _ _) | ((conv => whnf); refine And.intro ?_ ?_ <;> intro h <;> cases h) | ((conv => whnf); refine Or.inl ?_) | ((conv => whnf); refine ld32 ?_ ?_) | ((conv => whnf); refine And.intro (?_ : Side _) ?_) | fail)
        all_goals (conv => whnf)
        all_goals first
          | exact absurd (show true = decide _ from ‹_›) (by decide)
          | exact absurd (show false = decide _ from ‹_›) (by decide)
          | exact ⟨⟨by decide, by decide⟩, rfl, rfl, rfl⟩
          | exact ⟨rfl, by rw [hH]; decide⟩
          | exact apN (rows4 _) (by show 4 ≤ _; omega)
          | exact apW (by rw [cl_length, u8D_length, toldI_length, List.length_take, hH]; first | done | rfl) (rows4 _) (Nat.succ_ne_zero _) (Nat.le_of_ble_eq_true rfl)
          | skip
        · exact ⟨8 - 1, st37c bs A H 1, by omega, WeakN.perm [0, 1, 2, 3] rfl rfl (congrArg (fun z => ob37 bs A H ++ [AObj.arr z 1 1]) (tell1 hH (rows4 _))) ⟨⟨rfl, rfl⟩, ⟨rfl, rfl⟩, ⟨rfl, rfl⟩, trivial⟩, 1, by omega, rfl, rfl⟩
        · exact ⟨8 - 2, st37c bs A H 2, by omega, WeakN.perm [0, 1, 2, 3] rfl rfl (congrArg (fun z => ob37 bs A H ++ [AObj.arr z 1 2]) (tellN hH (Nat.le_of_ble_eq_true rfl) (rows4 (H.getD 1 0)))) ⟨⟨rfl, rfl⟩, ⟨rfl, rfl⟩, ⟨rfl, rfl⟩, trivial⟩, 2, by omega, rfl, rfl⟩
        · exact ⟨8 - 3, st37c bs A H 3, by omega, WeakN.perm [0, 1, 2, 3] rfl rfl (congrArg (fun z => ob37 bs A H ++ [AObj.arr z 1 3]) (tellN hH (Nat.le_of_ble_eq_true rfl) (rows4 (H.getD 2 0)))) ⟨⟨rfl, rfl⟩, ⟨rfl, rfl⟩, ⟨rfl, rfl⟩, trivial⟩, 3, by omega, rfl, rfl⟩
        · exact ⟨8 - 4, st37c bs A H 4, by omega, WeakN.perm [0, 1, 2, 3] rfl rfl (congrArg (fun z => ob37 bs A H ++ [AObj.arr z 1 4]) (tellN hH (Nat.le_of_ble_eq_true rfl) (rows4 (H.getD 3 0)))) ⟨⟨rfl, rfl⟩, ⟨rfl, rfl⟩, ⟨rfl, rfl⟩, trivial⟩, 4, by omega, rfl, rfl⟩
        · exact ⟨8 - 5, st37c bs A H 5, by omega, WeakN.perm [0, 1, 2, 3] rfl rfl (congrArg (fun z => ob37 bs A H ++ [AObj.arr z 1 5]) (tellN hH (Nat.le_of_ble_eq_true rfl) (rows4 (H.getD 4 0)))) ⟨⟨rfl, rfl⟩, ⟨rfl, rfl⟩, ⟨rfl, rfl⟩, trivial⟩, 5, by omega, rfl, rfl⟩
        · exact ⟨8 - 6, st37c bs A H 6, by omega, WeakN.perm [0, 1, 2, 3] rfl rfl (congrArg (fun z => ob37 bs A H ++ [AObj.arr z 1 6]) (tellN hH (Nat.le_of_ble_eq_true rfl) (rows4 (H.getD 5 0)))) ⟨⟨rfl, rfl⟩, ⟨rfl, rfl⟩, ⟨rfl, rfl⟩, trivial⟩, 6, by omega, rfl, rfl⟩
        · exact ⟨8 - 7, st37c bs A H 7, by omega, WeakN.perm [0, 1, 2, 3] rfl rfl (congrArg (fun z => ob37 bs A H ++ [AObj.arr z 1 7]) (tellN hH (Nat.le_of_ble_eq_true rfl) (rows4 (H.getD 6 0)))) ⟨⟨rfl, rfl⟩, ⟨rfl, rfl⟩, ⟨rfl, rfl⟩, trivial⟩, 7, by omega, rfl, rfl⟩
        · exact ⟨8 - 8, st37c bs A H 8, by omega, WeakN.perm [0, 1, 2, 3] rfl rfl (congrArg (fun z => ob37 bs A H ++ [AObj.arr z 1 8]) (tellN hH (Nat.le_of_ble_eq_true rfl) (rows4 (H.getD 7 0)))) ⟨⟨rfl, rfl⟩, ⟨rfl, rfl⟩, ⟨rfl, rfl⟩, trivial⟩, 8, by omega, rfl, rfl⟩
        · have e : List.take (4 * (7 + 1)) (List.drop 0 (cl (u8D (toldI (List.take (7 + 1) H))))) = cl (u8D (toldI H)) := by
            rw [List.take_of_length_le (show H.length ≤ 7 + 1 by omega)]
            exact List.take_of_length_le (by rw [List.length_drop, cl_length, u8D_length, toldI_length, hH]; decide)
          refine ⟨toldB H, ⟨?_, ?_⟩, ?_⟩
          · exact (congrArg allByte e).trans (allByte_cl _)
          · exact (congrArg (List.map byteD) e).trans (map_byteD _)
          · conv => whnf
            rw [hHe]
            exact ⟨rfl, rfl⟩
    · cases h
  · cases h
end Go.Proofs.Ytejejeginfjnjaa
