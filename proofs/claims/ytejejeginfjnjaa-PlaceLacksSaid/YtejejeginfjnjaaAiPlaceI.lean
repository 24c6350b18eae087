/- What is told of eight words, as the program tells it. -/
import Derived.Test.YtejejeginfjnjaaAiPlaceH
namespace Go.Proofs.Ytejejeginfjnjaa
open Go Go.AI
set_option linter.unusedVariables false

def wordB (x : Int) : List Int := [IntKind.u8.wrap (x.fdiv (2 ^ 24)), IntKind.u8.wrap (x.fdiv (2 ^ 16)), IntKind.u8.wrap (x.fdiv (2 ^ 8)), IntKind.u8.wrap (x.fdiv (2 ^ 0))]
def toldI : List Int → List Int
  | [] => []
  | x :: l => wordB x ++ toldI l
def byteI (n : Int) : UInt8 := UInt8.ofNat n.toNat
def toldB (H : List Int) : List UInt8 := (toldI H).map byteI

theorem toldI_length : ∀ (H : List Int), (toldI H).length = 4 * H.length
  | [] => rfl
  | x :: l => by simp [toldI, wordB, toldI_length l]; omega
theorem toldI_snoc (x : Int) : ∀ (l : List Int), toldI (l ++ [x]) = toldI l ++ wordB x
  | [] => by simp [toldI]
  | y :: l => by simp [toldI, toldI_snoc x l]

def outL (H : List Int) (i j : Nat) : List Int := toldI (H.take i) ++ ((wordB (H.getD i 0)).take j ++ List.replicate (32 - 4 * i - j) 0)

theorem ix32 {P Q R : Prop} {H : List Int} {n : Int} {k : D → Prop} (h : Side (P ∧ n.toNat < H.length)) (hq : Q) (hR : R) (hk : k (.int .u32 (H.getD n.toNat 0))) :
    ∃ r, Side (P ∧ Q ∧ R ∧ n.toNat < (u32D H).length ∧ (u32D H).getD n.toNat .nilp = r) ∧ k r := by
  refine ⟨_, ⟨h.ok.1, hq, hR, by rw [u32D_length]; exact h.ok.2, ?_⟩, hk⟩
  have := h.ok.2
  simp [u32D, List.getD_eq_getElem?_getD, this]

theorem outL_len {H : List Int} (h : H.length = 8) {i j : Nat} (hi : i ≤ 8) (hj : 4 * i + j ≤ 32 ∧ j ≤ 4) : (outL H i j).length = 32 := by
  unfold outL
  have h4 : (wordB (H.getD i 0)).length = 4 := rfl
  rw [List.length_append, List.length_append, toldI_length, List.length_take, List.length_take, List.length_replicate, h, h4]
  omega
theorem set_app (A B : List Int) (m : Nat) (v : Int) : (A ++ (B ++ List.replicate (m + 1) 0)).set (A.length + B.length) v = A ++ ((B ++ [v]) ++ List.replicate m 0) := by
  rw [List.set_append, if_neg (by omega), Nat.add_sub_cancel_left, List.set_append, if_neg (by omega), Nat.sub_self, List.replicate_succ, List.set_cons_zero, List.append_assoc]
  rfl
theorem step54 {H : List Int} {i k' p : Nat} (j : Nat) (h : H.length = 8) (hi : i < 8) (hp : p = 4 * i + j) (hw : (wordB (H.getD i 0)).take j ++ [IntKind.u8.wrap ((H.getD i 0).fdiv (2 ^ min k' IntKind.u32.bits))] = (wordB (H.getD i 0)).take (j + 1)) (hj : j < 4) :
    (cl (u8D (outL H i j))).set p [D.int .u8 (IntKind.u8.wrap ((H.getD i 0).fdiv (2 ^ min k' IntKind.u32.bits)))] = cl (u8D (outL H i (j + 1))) := by
  rw [cl_set8]
  congr 2
  have h4 : (wordB (H.getD i 0)).length = 4 := rfl
  have e1 : p = (toldI (H.take i)).length + ((wordB (H.getD i 0)).take j).length := by
    rw [toldI_length, List.length_take, List.length_take, h, h4]; omega
  unfold outL
  rw [show 32 - 4 * i - j = (32 - 4 * i - (j + 1)) + 1 by omega, e1, set_app, hw]
theorem outL_next {H : List Int} {i : Nat} (h : H.length = 8) (hi : i < 8) : outL H i 4 = outL H (i + 1) 0 := by
  unfold outL
  have e : H.take (i + 1) = H.take i ++ [H.getD i 0] := by
    rw [List.take_add_one, List.getD_eq_getElem?_getD]
    simp [show i < H.length by omega]
  rw [e, toldI_snoc, List.take_zero, List.nil_append, List.append_assoc]
  have h4 : (wordB (H.getD i 0)).take 4 = wordB (H.getD i 0) := rfl
  rw [h4, show 32 - 4 * (i + 1) - 0 = 32 - 4 * i - 4 by omega]
theorem allByte_cl : ∀ (l : List Int), allByte (cl (u8D l)) = true
  | [] => rfl
  | x :: l => by
    show (isByteD [D.int .u8 x] && allByte (cl (u8D l))) = true
    rw [allByte_cl l]; rfl
theorem map_byteD (l : List Int) : (cl (u8D l)).map byteD = l.map byteI := by
  simp [cl, u8D, byteD, byteI, Function.comp_def]

def st54 (H : List Int) (i : Nat) : AS := ⟨[(3, .ptr 1 0 0 0), (7, .ar (u32D H)), (8, .d (.int .i64 i))], [.arr (cl (u32D H)) 1 0, .arr (cl (u8D (outL H i 0))) 1 0]⟩
def st54b (H : List Int) (i j : Nat) : AS := ⟨[(3, .ptr 1 0 0 0), (7, .ar (u32D H)), (8, .d (.int .i64 i)), (4, .d (.int .i64 i)), (5, .d (.int .u32 (H.getD i 0))), (12, .d (.int .i64 j))], [.arr (cl (u32D H)) 1 0, .arr (cl (u8D (outL H i j))) 1 0]⟩

def S54 : List AV → Option AV
  | [.ar hs] => if hs.all isU32 = true ∧ hs.length = 8 then some (.d (.str (toldB (hs.map numD)))) else none
  | _ => none

theorem S54_ok : SpecOk Try.prog 54 S54 := by
  refine spec_of T_ok (tblCv_ok (t := 53) (n := 1) (tblA_ok (t := 99) (tblA_ok (t := 73) (tbl0_ok _)))) mixed Try.func54 (by kernel_rfl) rfl (by kernel_rfl) ?_
  intro args res h
  unfold S54 at h
  split at h
  · rename_i hs
    split at h
    · rename_i hc
      obtain ⟨h1, h2⟩ := hc
      have h1 := u32D_of h1
      have h5 : (hs.map numD).length = 8 := by rw [List.length_map]; exact h2
      generalize hs.map numD = H at h1 h5 h
      subst h1
      cases h
      refine ⟨by simp [Try.f54], rfl, rfl, ?_⟩
      repeat' (first | ((conv => whnf); intro _ _) | ((conv => whnf); refine And.intro ?_ ?_ <;> intro h <;> cases h) | ((conv => whnf); refine ldAll ?_ ?_) | ((conv => whnf); refine And.intro (?_ : Side _) ?_) | fail)
      all_goals (conv => whnf)
      · exact ⟨rfl, by rw [u32D_length]; exact h5⟩
      refine ⟨fun k σ => ∃ i, i ≤ 8 ∧ k = 8 - i ∧ σ = st54 H i, 8, ⟨st54 H 0, atL _ ⟨rfl, rfl, rfl, trivial⟩, 0, by omega, rfl, rfl⟩, ?_⟩
      rintro k σ ⟨i, hi, rfl, rfl⟩
      repeat' (first | ((conv => whnf); intro _ _) | ((conv => whnf); refine And.intro ?_ ?_ <;> intro h <;> cases h) | ((conv => whnf); refine ix32 ?_ rfl rfl ?_) | ((conv => whnf); refine And.intro (?_ : Side _) ?_) | fail)
      all_goals (conv => whnf)
      all_goals simp only [true_eq_decide_iff, false_eq_decide_iff] at *
      · exact ⟨⟨by omega, by omega⟩, by omega⟩
      · refine ⟨fun k σ => ∃ j, j ≤ 4 ∧ k = 4 - j ∧ σ = st54b H i j, 4, ⟨st54b H i 0, atL _ ⟨rfl, rfl, rfl, rfl, rfl, rfl, trivial⟩, 0, by omega, rfl, rfl⟩, ?_⟩
        rintro k σ ⟨j, hj, rfl, rfl⟩
        have hj : j = 0 ∨ j = 1 ∨ j = 2 ∨ j = 3 ∨ j = 4 := by omega
        rcases hj with rfl | rfl | rfl | rfl | rfl
        all_goals repeat' (first | ((conv => whnf); intro _ _) | ((conv => whnf); refine And.intro ?_ ?_ <;> intro h <;> cases h) | ((conv => whnf); refine And.intro (?_ : Side _) ?_) | fail)
        all_goals (conv => whnf)
        all_goals first
          | exact absurd (show true = decide _ from ‹_›) (by decide)
          | exact absurd (show false = decide _ from ‹_›) (by decide)
          | exact ⟨⟨by rw [wrap64_id (n := 4 * _) (by omega) (by omega), wrap64_id (by omega) (by omega)]; omega, by rw [wrap64_id (n := 4 * _) (by omega) (by omega), wrap64_id (by omega) (by omega)]; omega⟩, rfl, rfl, rfl⟩
          | exact ⟨rfl, by rw [wrap64_id (n := 4 * _) (by omega) (by omega), wrap64_id (by omega) (by omega), cl_length, u8D_length, outL_len h5 (by omega) (by omega)]; omega⟩
          | skip
        · exact ⟨4 - 1, st54b H i 1, by omega, WeakN.perm [0, 1] rfl rfl (congrArg (fun z => [AObj.arr (cl (u32D H)) 1 0, AObj.arr z 1 0]) (step54 (i := i) 0 h5 (by omega) (by rw [wrap64_id (n := 4 * _) (by omega) (by omega), wrap64_id (by omega) (by omega)]; omega) rfl (by omega))) ⟨⟨rfl, rfl⟩, ⟨rfl, rfl⟩, ⟨rfl, rfl⟩, ⟨rfl, rfl⟩, ⟨rfl, rfl⟩, ⟨rfl, rfl⟩, trivial⟩, 1, by omega, rfl, rfl⟩
        · exact ⟨4 - 2, st54b H i 2, by omega, WeakN.perm [0, 1] rfl rfl (congrArg (fun z => [AObj.arr (cl (u32D H)) 1 0, AObj.arr z 1 0]) (step54 (i := i) 1 h5 (by omega) (by rw [wrap64_id (n := 4 * _) (by omega) (by omega), wrap64_id (by omega) (by omega)]; omega) rfl (by omega))) ⟨⟨rfl, rfl⟩, ⟨rfl, rfl⟩, ⟨rfl, rfl⟩, ⟨rfl, rfl⟩, ⟨rfl, rfl⟩, ⟨rfl, rfl⟩, trivial⟩, 2, by omega, rfl, rfl⟩
        · exact ⟨4 - 3, st54b H i 3, by omega, WeakN.perm [0, 1] rfl rfl (congrArg (fun z => [AObj.arr (cl (u32D H)) 1 0, AObj.arr z 1 0]) (step54 (i := i) 2 h5 (by omega) (by rw [wrap64_id (n := 4 * _) (by omega) (by omega), wrap64_id (by omega) (by omega)]; omega) rfl (by omega))) ⟨⟨rfl, rfl⟩, ⟨rfl, rfl⟩, ⟨rfl, rfl⟩, ⟨rfl, rfl⟩, ⟨rfl, rfl⟩, ⟨rfl, rfl⟩, trivial⟩, 3, by omega, rfl, rfl⟩
        · exact ⟨4 - 4, st54b H i 4, by omega, WeakN.perm [0, 1] rfl rfl (congrArg (fun z => [AObj.arr (cl (u32D H)) 1 0, AObj.arr z 1 0]) (step54 (i := i) 3 h5 (by omega) (by rw [wrap64_id (n := 4 * _) (by omega) (by omega), wrap64_id (by omega) (by omega)]; omega) rfl (by omega))) ⟨⟨rfl, rfl⟩, ⟨rfl, rfl⟩, ⟨rfl, rfl⟩, ⟨rfl, rfl⟩, ⟨rfl, rfl⟩, ⟨rfl, rfl⟩, trivial⟩, 4, by omega, rfl, rfl⟩
        · exact ⟨8 - (i + 1), st54 H (i + 1), by omega, WeakN.perm [0, 1] rfl rfl (congrArg (fun z => [AObj.arr (cl (u32D H)) 1 0, AObj.arr (cl (u8D z)) 1 0]) (outL_next h5 (by omega))) ⟨⟨rfl, rfl⟩, ⟨rfl, rfl⟩, ⟨rfl, congrArg (fun z => AV.d (D.int .i64 z)) (wi (m := i + 1) (by omega) (by omega))⟩, trivial⟩, i + 1, by omega, rfl, rfl⟩
      · exact ⟨⟨⟨trivial, trivial, rfl⟩, trivial, by rw [cl_length, u8D_length, outL_len h5 hi (by omega)]; omega⟩, by omega, by omega, by omega⟩
      · have : i = 8 := by omega
        subst this
        have e : List.take ((32 : Int).toNat - Int.toNat 0) (List.drop (0 + 0 + Int.toNat 0) (cl (u8D (outL H 8 0)))) = cl (u8D (toldI H)) := by
          have e1 : outL H 8 0 = toldI H := by
            unfold outL
            rw [List.take_of_length_le (by omega)]
            simp
          rw [e1]
          exact List.take_of_length_le (by rw [List.length_drop, cl_length, u8D_length, toldI_length, h5]; decide)
        refine ⟨toldB H, ⟨?_, ?_⟩, ?_⟩
        · exact (congrArg allByte e).trans (allByte_cl _)
        · exact (congrArg (List.map byteD) e).trans (map_byteD _)
        · conv => whnf
    · cases h
  · cases h
end Go.Proofs.Ytejejeginfjnjaa
