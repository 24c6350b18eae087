/- The words of a block, as the program makes them. -/
import Derived.Test.YtejejeginfjnjaaAiPlaceC
namespace Go.Proofs.Ytejejeginfjnjaa
open Go Go.AI
set_option linter.unusedVariables false

def allAt (σ : AS) : List (Nat × AV) → Prop
  | [] => True
  | p :: l => σ.get p.1 = p.2 ∧ allAt σ l
theorem atL {σ : AS} {n : Nat} (l : List (Nat × AV)) (h : allAt σ l) : WeakN n σ ⟨l, σ.objs⟩ :=
  .of (Weak.at l (by
    induction l with
    | nil => intro p hp; cases hp
    | cons q l ih =>
      intro p hp
      rcases List.mem_cons.1 hp with rfl | hp
      · exact h.1
      · exact ih h.2 p hp))

def row8 (r : List D) : Bool := match r with | [.int .u8 _] => true | _ => false
def rowN (r : List D) : Int := match r with | [.int _ n] => n | _ => 0
theorem cl8_of {rs : List (List D)} (h : rs.all row8 = true) : rs = cl (u8D (rs.map rowN)) := by
  induction rs with
  | nil => rfl
  | cons r l ih =>
    simp only [List.all_cons, Bool.and_eq_true] at h
    have h1 := ih h.2
    have h2 : r = [D.int .u8 (rowN r)] := by
      have := h.1
      unfold row8 at this
      split at this
      · rfl
      · cases this
    simp only [cl, u8D, List.map_cons] at h1 ⊢
    rw [← h1, ← h2]

def step8 (a x : Int) : Int := or32 (w32 (a * 2 ^ 8)) (w32 x)
def partP (B L : List Int) (i : Nat) : Nat → List Int
  | 0 => L
  | j + 1 => (partP B L i j).set i (step8 ((partP B L i j).getD i 0) (B.getD (4 * i + j) 0))
theorem partP_length (B L : List Int) (i j : Nat) : (partP B L i j).length = L.length := by
  induction j with
  | zero => rfl
  | succ j ih => simp [partP, ih]

def lowBP (x : Int) : Int := xor32 (xor32 (rotP x 17) (rotP x 19)) (x.fdiv (2 ^ 10))
def lowAP (x : Int) : Int := xor32 (xor32 (rotP x 7) (rotP x 18)) (x.fdiv (2 ^ 3))
def wordsP (B : List Int) : Nat → List Int
  | 0 => List.replicate 64 0
  | i + 1 => if i < 16 then partP B (wordsP B i) i 4
    else (wordsP B i).set i (w32 (w32 (w32 (lowBP ((wordsP B i).getD (i - 2) 0) + (wordsP B i).getD (i - 7) 0) + lowAP ((wordsP B i).getD (i - 15) 0)) + (wordsP B i).getD (i - 16) 0))
theorem wordsP_length (B : List Int) (i : Nat) : (wordsP B i).length = 64 := by
  induction i with
  | zero => simp [wordsP]
  | succ i ih =>
    simp only [wordsP]
    split
    · rw [partP_length, ih]
    · simp [ih]

def ob73 (B L : List Int) : List AObj := [.arr (cl (u8D B)) 1 0, .arr (cl (u32D (List.replicate 64 0))) 1 0, .arr (cl (u32D L)) 1 0]
def st73 (B L : List Int) (i : Nat) : AS := ⟨[(0, .ptr 0 0 0 0), (2, .ptr 1 0 0 0), (3, .ptr 2 0 0 0), (7, .d (.int .i64 i))], ob73 B L⟩
def st73j (B L : List Int) (i j : Nat) : AS := ⟨[(0, .ptr 0 0 0 0), (2, .ptr 1 0 0 0), (3, .ptr 2 0 0 0), (4, .d (.int .i64 i)), (7, .d (.int .i64 i)), (19, .win 0 (4 * i) 4 0), (20, .d (.int .i64 4)), (21, .d (.int .i64 j))], ob73 B L⟩

def S73 : List AV → List AObj → Option (AV × List AObj)
  | [.ptr 0 0 0 0], [.arr rs 1 0] => if rs.all row8 = true ∧ rs.length = 64 then some (.ar (u32D (wordsP (rs.map rowN) 64)), [.arr rs 1 0]) else none
  | _, _ => none

def T73 : Tbl := tblAdd 87 S87 (tblAdd 88 S88 (tblA 92 tbl0))
theorem T73_ok : TblOk Try.prog T73 := tblAdd_ok S87_ok (tblAdd_ok S88_ok (tblA_ok (tbl0_ok _)))

theorem S73_ok : SpecO Try.prog 73 S73 := by
  refine specO_of (tbl := T73) T_ok T73_ok mixed Try.func73 (by kernel_rfl) rfl (by kernel_rfl) ?_
  intro args objs res objs' h
  unfold S73 at h
  split at h
  · rename_i rs
    split at h
    · rename_i hc
      obtain ⟨h1, h2⟩ := hc
      cases h
      refine ⟨by simp [Try.f73], ?_⟩
      have h1 := cl8_of h1
      generalize rs.map rowN = B at h1 ⊢
      subst h1
      rw [cl_length, u8D_length] at h2
      conv => whnf
      refine ⟨fun k σ => ∃ i, i ≤ 64 ∧ k = 64 - i ∧ σ = st73 B (wordsP B i) i, 64, ⟨_, atL [(0, .ptr 0 0 0 0), (2, .ptr 1 0 0 0), (3, .ptr 2 0 0 0), (7, .d (.int .i64 0))] ⟨rfl, rfl, rfl, rfl, trivial⟩, 0, by omega, rfl, rfl⟩, ?_⟩
      rintro k σ ⟨i, hi, rfl, rfl⟩
      have hL := wordsP_length B i
      generalize hLe : wordsP B i = L at hL ⊢
      repeat' (first | ((conv => whnf); intro _ _) | ((conv => whnf); refine And.intro ?_ ?_ <;> intro h <;> cases h) | ((conv => whnf); refine ld32 ?_ ?_) | ((conv => whnf); refine ld8 ?_ ?_) | ((conv => whnf); refine ldAll ?_ ?_) | ((conv => whnf); refine ldSet ?_ ?_) | ((conv => whnf); refine And.intro (?_ : Side _) ?_) | fail)
      all_goals (conv => whnf)
      all_goals simp only [true_eq_decide_iff, false_eq_decide_iff] at *
      all_goals first
        | (refine ⟨?_⟩; (try simp (disch := omega) only [cl_length, u32D_length, u8D_length, h2, hL, List.length_replicate, wrap64_id]); (repeat' apply And.intro) <;> first | omega | rfl | trivial)
        | skip
      · rename_i h16
        have e0 : IntKind.i64.wrap (4 * (i : Int)) = 4 * (i : Int) := wrap64_id (by omega) (by omega)
        have e1 : IntKind.i64.wrap (4 * (i : Int) + 4) = 4 * (i : Int) + 4 := wrap64_id (by omega) (by omega)
        refine ⟨fun k σ => ∃ j, j ≤ 4 ∧ k = 4 - j ∧ σ = st73j B (partP B L i j) i j, 4, ⟨_, atL [(0, .ptr 0 0 0 0), (2, .ptr 1 0 0 0), (3, .ptr 2 0 0 0), (4, .d (.int .i64 i)), (7, .d (.int .i64 i)), (19, .win 0 (4 * i) 4 0), (20, .d (.int .i64 4)), (21, .d (.int .i64 0))] ⟨rfl, rfl, rfl, rfl, rfl, ?_, ?_, rfl, trivial⟩, 0, by omega, rfl, rfl⟩, ?_⟩
        · show AV.win _ _ _ _ = AV.win _ _ _ _
          rw [e0, e1]
          congr 1 <;> omega
        · show AV.d (.int _ _) = AV.d (.int _ _)
          rw [e0, e1]
          congr 2; omega
        rintro k σ ⟨j, hj, rfl, rfl⟩
        have hL2 : (partP B L i j).length = 64 := by rw [partP_length, hL]
        generalize hMe : partP B L i j = M at hL2 ⊢
        repeat' (first | ((conv => whnf); intro _ _) | ((conv => whnf); refine And.intro ?_ ?_ <;> intro h <;> cases h) | ((conv => whnf); refine ld32 ?_ ?_) | ((conv => whnf); refine ld8 ?_ ?_) | ((conv => whnf); refine ldAll ?_ ?_) | ((conv => whnf); refine ldSet ?_ ?_) | ((conv => whnf); refine And.intro (?_ : Side _) ?_) | fail)
        all_goals (conv => whnf)
        all_goals simp only [true_eq_decide_iff, false_eq_decide_iff] at *
        all_goals first
          | (refine ⟨?_⟩; (try simp (disch := omega) only [cl_length, u32D_length, h2, hL2]); (repeat' apply And.intro) <;> first | omega | rfl | trivial)
          | skip
        · refine ⟨4 - (j + 1), _, by omega, atL [(0, .ptr 0 0 0 0), (2, .ptr 1 0 0 0), (3, .ptr 2 0 0 0), (4, .d (.int .i64 i)), (7, .d (.int .i64 i)), (19, .win 0 (4 * i) 4 0), (20, .d (.int .i64 4)), (21, .d (.int .i64 ((j + 1 : Nat) : Int)))] ⟨rfl, rfl, rfl, rfl, rfl, rfl, rfl, congrArg (fun z => AV.d (D.int .i64 z)) (wi (m := j + 1) (by omega) (by omega)), trivial⟩, j + 1, by omega, rfl, ?_⟩
          refine congrArg (fun l => (⟨[(0, .ptr 0 0 0 0), (2, .ptr 1 0 0 0), (3, .ptr 2 0 0 0), (4, .d (.int .i64 i)), (7, .d (.int .i64 i)), (19, .win 0 (4 * i) 4 0), (20, .d (.int .i64 4)), (21, .d (.int .i64 ((j + 1 : Nat) : Int)))], [.arr (cl (u8D B)) 1 0, .arr (cl (u32D (List.replicate 64 0))) 1 0, .arr l 1 0]⟩ : AS)) ?_
          have e2 : 0 + 0 + (i : Int).toNat + 0 = i := by omega
          have e3 : 4 * i + (j : Int).toNat + 0 = 4 * i + j := by omega
          rw [cl_seti, partP, hMe, e2, e3]
          rfl
        · have : j = 4 := by omega
          subst this
          refine ⟨64 - (i + 1), _, by omega, atL [(0, .ptr 0 0 0 0), (2, .ptr 1 0 0 0), (3, .ptr 2 0 0 0), (7, .d (.int .i64 ((i + 1 : Nat) : Int)))] ⟨rfl, rfl, rfl, congrArg (fun z => AV.d (D.int .i64 z)) (wi (m := i + 1) (by omega) (by omega)), trivial⟩, i + 1, by omega, rfl, ?_⟩
          rw [wordsP, if_pos (by omega), hLe, hMe]
          rfl
      · rename_i h16
        refine ⟨64 - (i + 1), _, by omega, atL [(0, .ptr 0 0 0 0), (2, .ptr 1 0 0 0), (3, .ptr 2 0 0 0), (7, .d (.int .i64 ((i + 1 : Nat) : Int)))] ⟨rfl, rfl, rfl, congrArg (fun z => AV.d (D.int .i64 z)) (wi (m := i + 1) (by omega) (by omega)), trivial⟩, i + 1, by omega, rfl, ?_⟩
        refine congrArg (fun l => (⟨[(0, .ptr 0 0 0 0), (2, .ptr 1 0 0 0), (3, .ptr 2 0 0 0), (7, .d (.int .i64 ((i + 1 : Nat) : Int)))], [.arr (cl (u8D B)) 1 0, .arr (cl (u32D (List.replicate 64 0))) 1 0, .arr l 1 0]⟩ : AS)) ?_
        rw [cl_seti, wordsP, hLe, if_neg (by omega)]
        simp (disch := omega) only [wrap64_id]
        have e0 : 0 + 0 + ((i : Int) - 2).toNat + 0 = i - 2 := by omega
        have e1 : 0 + 0 + ((i : Int) - 7).toNat + 0 = i - 7 := by omega
        have e2 : 0 + 0 + ((i : Int) - 15).toNat + 0 = i - 15 := by omega
        have e3 : 0 + 0 + ((i : Int) - 16).toNat + 0 = i - 16 := by omega
        rw [e0, e1, e2, e3]
        rfl
      · have : i = 64 := by omega
        subst this
        rw [← hLe]
        exact ⟨rfl, rfl⟩
    · cases h
  · cases h
end Go.Proofs.Ytejejeginfjnjaa
