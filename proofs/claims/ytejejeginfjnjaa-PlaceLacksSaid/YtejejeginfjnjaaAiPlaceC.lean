/- Variables whose cells are rows: what loads of them tell. The reference's words of a block. -/
import Derived.Test.YtejejeginfjnjaaAiPlaceB
namespace Go.Proofs.Ytejejeginfjnjaa
open Go Go.AI
set_option linter.unusedVariables false

def cl (ds : List D) : List (List D) := ds.map fun d => [d]

theorem cl_length (ds : List D) : (cl ds).length = ds.length := by simp [cl]
theorem u32D_length (l : List Int) : (u32D l).length = l.length := by simp [u32D]
theorem u8D_length (l : List Int) : (u8D l).length = l.length := by simp [u8D]
theorem cl_set (l : List Int) (p : Nat) (v : Int) : (cl (u32D l)).set p [D.int .u32 v] = cl (u32D (l.set p v)) := by
  simp [cl, u32D, List.map_set]
theorem cl_set8 (l : List Int) (p : Nat) (v : Int) : (cl (u8D l)).set p [D.int .u8 v] = cl (u8D (l.set p v)) := by
  simp [cl, u8D, List.map_set]

theorem cl_get32 (l : List Int) (p : Nat) (h : p < l.length) : (cl (u32D l)).getD p [] = [D.int .u32 (l.getD p 0)] := by
  simp [cl, u32D, List.getD_eq_getElem?_getD, h]
theorem cl_get8 (l : List Int) (p : Nat) (h : p < l.length) : (cl (u8D l)).getD p [] = [D.int .u8 (l.getD p 0)] := by
  simp [cl, u8D, List.getD_eq_getElem?_getD, h]

theorem ld32 {P : Prop} {l : List Int} {pos : Nat} {k : List D → Prop} (h : Side (P ∧ pos < l.length)) (hk : k [D.int .u32 (l.getD pos 0)]) :
    ∃ r, Side (P ∧ pos < (cl (u32D l)).length ∧ (cl (u32D l)).getD pos [] = r) ∧ k r :=
  ⟨_, ⟨h.ok.1, by rw [cl_length, u32D_length]; exact h.ok.2, cl_get32 l pos h.ok.2⟩, hk⟩
theorem ld8 {P : Prop} {l : List Int} {pos : Nat} {k : List D → Prop} (h : Side (P ∧ pos < l.length)) (hk : k [D.int .u8 (l.getD pos 0)]) :
    ∃ r, Side (P ∧ pos < (cl (u8D l)).length ∧ (cl (u8D l)).getD pos [] = r) ∧ k r :=
  ⟨_, ⟨h.ok.1, by rw [cl_length, u8D_length]; exact h.ok.2, cl_get8 l pos h.ok.2⟩, hk⟩
theorem ldAll {P : Prop} {ds : List D} {n : Nat} {k : List D → Prop} (h : Side (P ∧ ds.length = n)) (hk : k ds) :
    ∃ e, Side (P ∧ 0 + 0 + n ≤ (cl ds).length ∧ (((cl ds).drop (0 + 0)).take n).map (fun r => r.getD 0 .nilp) = e) ∧ k e := by
  obtain ⟨h1, rfl⟩ := h.ok
  refine ⟨_, ⟨h1, by rw [cl_length]; omega, ?_⟩, hk⟩
  simp only [Nat.add_zero, List.drop_zero]
  rw [← cl_length ds, List.take_length, cl, List.map_map]
  conv => rhs; rw [← List.map_id ds]
  rfl
theorem setR_all {α : Type} {a b : List α} (h : b.length = a.length) : setR a (0 + 0) b = b := by
  simp [setR, h]
theorem ldSet {P : Prop} {z ds : List D} {n : Nat} {k : List D → Prop} (h : Side (P ∧ ds.length = n ∧ z.length = n)) (hk : k ds) :
    ∃ e, Side (P ∧ 0 + 0 + n ≤ (setR (cl z) (0 + 0) (ds.map fun d => [d])).length ∧ (((setR (cl z) (0 + 0) (ds.map fun d => [d])).drop (0 + 0)).take n).map (fun r => r.getD 0 .nilp) = e) ∧ k e := by
  obtain ⟨h1, h2, h3⟩ := h.ok
  have e1 : setR (cl z) (0 + 0) (ds.map fun d => [d]) = cl ds := setR_all (by rw [List.length_map, cl_length, h2, h3])
  rw [e1]
  exact ldAll ⟨h1, h2⟩ hk

theorem cl_seti (l : List Int) (i : Nat) (v : Int) : (cl (u32D l)).set (0 + 0 + (i : Int).toNat + 0) [D.int .u32 v] = cl (u32D (l.set i v)) := by
  have : 0 + 0 + (i : Int).toNat + 0 = i := by omega
  rw [this, cl_set]

theorem at4 {σ : AS} {n i j k l : Nat} {a b c d : AV} (h1 : σ.get i = a) (h2 : σ.get j = b) (h3 : σ.get k = c) (h4 : σ.get l = d) : WeakN n σ ⟨[(i, a), (j, b), (k, c), (l, d)], σ.objs⟩ :=
  .of <| Weak.at _ fun p hp => by
    simp only [List.mem_cons, List.not_mem_nil, or_false] at hp
    rcases hp with rfl | rfl | rfl | rfl
    · exact h1
    · exact h2
    · exact h3
    · exact h4

theorem wrapi_nat (n : Nat) (h : n < 9223372036854775808) : IntKind.i64.wrap (n : Int) = (n : Int) := by
  simp [IntKind.wrap, IntKind.bits, IntKind.signed]; omega
theorem wrap64_id {n : Int} (h0 : -9223372036854775808 ≤ n) (h1 : n ≤ 9223372036854775807) : IntKind.i64.wrap n = n := by
  simp [IntKind.wrap, IntKind.bits, IntKind.signed]; omega
theorem wi {n : Int} {m : Nat} (h : n = (m : Int)) (hm : m < 9223372036854775808) : IntKind.i64.wrap n = (m : Int) := by
  subst h
  exact wrapi_nat m hm

def wordQ (B L : List Int) (i : Nat) : Int :=
  if i < 16 then w32 (w32 (w32 (w32 (w32 (B.getD (4 * i) 0) * 16777216) + w32 (w32 (B.getD (4 * i + 1) 0) * 65536)) + w32 (w32 (B.getD (4 * i + 2) 0) * 256)) + w32 (B.getD (4 * i + 3) 0))
  else w32 (w32 (w32 (xor32 (xor32 (rotQ (L.getD (i - 2) 0) 17) (rotQ (L.getD (i - 2) 0) 19)) ((L.getD (i - 2) 0).fdiv (2 ^ 10)) + L.getD (i - 7) 0) + xor32 (xor32 (rotQ (L.getD (i - 15) 0) 7) (rotQ (L.getD (i - 15) 0) 18)) ((L.getD (i - 15) 0).fdiv (2 ^ 3))) + L.getD (i - 16) 0)

def wordsQ (B : List Int) : Nat → List Int
  | 0 => List.replicate 64 0
  | i + 1 => (wordsQ B i).set i (wordQ B (wordsQ B i) i)

theorem wordsQ_length (B : List Int) (i : Nat) : (wordsQ B i).length = 64 := by
  induction i with
  | zero => simp [wordsQ]
  | succ i ih => simp [wordsQ, ih]

def isU32 (d : D) : Bool := match d with | .int .u32 _ => true | _ => false
def isU8 (d : D) : Bool := match d with | .int .u8 _ => true | _ => false
def numD (d : D) : Int := match d with | .int _ n => n | _ => 0
theorem u32D_of {ds : List D} (h : ds.all isU32 = true) : ds = u32D (ds.map numD) := by
  induction ds with
  | nil => rfl
  | cons d l ih =>
    simp only [List.all_cons, Bool.and_eq_true] at h
    have h1 := ih h.2
    cases d with
    | int k n => cases k <;> simp [isU32] at h ⊢ <;> (simp only [u32D, List.map_cons, numD]; rw [u32D] at h1; rw [← h1])
    | _ => simp [isU32] at h
theorem u8D_of {ds : List D} (h : ds.all isU8 = true) : ds = u8D (ds.map numD) := by
  induction ds with
  | nil => rfl
  | cons d l ih =>
    simp only [List.all_cons, Bool.and_eq_true] at h
    have h1 := ih h.2
    cases d with
    | int k n => cases k <;> simp [isU8] at h ⊢ <;> (simp only [u8D, List.map_cons, numD]; rw [u8D] at h1; rw [← h1])
    | _ => simp [isU8] at h

def st83 (B L : List Int) (i : Nat) : AS := ⟨[(1, .ptr 0 0 0 0), (2, .ptr 1 0 0 0), (3, .ptr 2 0 0 0), (4, .d (.int .i64 i))], [.arr (cl (u8D B)) 1 0, .arr (cl (u32D (List.replicate 64 0))) 1 0, .arr (cl (u32D L)) 1 0]⟩

def S83 : List AV → Option AV
  | [.ar ds] => if ds.all isU8 = true ∧ ds.length = 64 then some (.ar (u32D (wordsQ (ds.map numD) 64))) else none
  | _ => none

def T83 : Tbl := tblAdd 85 S85 (tblA 92 (tblA 75 tbl0))
theorem T83_ok : TblOk Try.prog T83 := tblAdd_ok S85_ok (tblA_ok (tblA_ok (tbl0_ok _)))

theorem S83_ok : SpecOk Try.prog 83 S83 := by
  refine spec_of (tbl := T83) T_ok T83_ok mixed Try.func83 (by kernel_rfl) rfl (by kernel_rfl) ?_
  intro args res h
  unfold S83 at h
  split at h
  · rename_i ds
    split at h
    · rename_i hc
      obtain ⟨h1, h2⟩ := hc
      cases h
      refine ⟨by simp [Try.f83], rfl, rfl, ?_⟩
      have h1 := u8D_of h1
      generalize ds.map numD = B at h1 ⊢
      subst h1
      rw [u8D_length] at h2
      conv => whnf
      refine ⟨fun k σ => ∃ i, i ≤ 64 ∧ k = 64 - i ∧ σ = st83 B (wordsQ B i) i, 64, ⟨_, at4 (i := 1) (j := 2) (k := 3) (l := 4) rfl rfl rfl rfl, 0, by omega, rfl, rfl⟩, ?_⟩
      rintro k σ ⟨i, hi, rfl, rfl⟩
      have hL := wordsQ_length B i
      generalize hLe : wordsQ B i = L at hL ⊢
      repeat' (first | ((conv => whnf); intro _ _) | ((conv => whnf); refine And.intro ?_ ?_ <;> intro h <;> cases h) | ((conv => whnf); refine ld32 ?_ ?_) | ((conv => whnf); refine ld8 ?_ ?_) | ((conv => whnf); refine ldAll ?_ ?_) | ((conv => whnf); refine ldSet ?_ ?_) | ((conv => whnf); refine And.intro (?_ : Side _) ?_) | fail)
      all_goals (conv => whnf)
      all_goals simp only [true_eq_decide_iff, false_eq_decide_iff] at *
      all_goals first
        | (refine ⟨?_⟩; (try simp (disch := omega) only [cl_length, u32D_length, h2, hL, List.length_replicate, wrap64_id]); (repeat' apply And.intro) <;> first | omega | rfl | trivial)
        | skip
      · rename_i h16
        refine ⟨64 - (i + 1), _, by omega, at4 (i := 1) (j := 2) (k := 3) (l := 4) rfl rfl rfl (congrArg (fun z => AV.d (D.int .i64 z)) (wi (m := i + 1) (by omega) (by omega))), i + 1, by omega, rfl, ?_⟩
        refine congrArg (fun l => (⟨[(1, .ptr 0 0 0 0), (2, .ptr 1 0 0 0), (3, .ptr 2 0 0 0), (4, .d (.int .i64 ((i + 1 : Nat) : Int)))], [.arr (cl (u8D B)) 1 0, .arr (cl (u32D (List.replicate 64 0))) 1 0, .arr l 1 0]⟩ : AS)) ?_
        rw [cl_seti, wordsQ, hLe, wordQ, if_pos (by omega)]
        simp (disch := omega) only [wrap64_id]
        have e0 : 0 + 0 + (4 * (i : Int)).toNat + 0 = 4 * i := by omega
        have e1 : 0 + 0 + (4 * (i : Int) + 1).toNat + 0 = 4 * i + 1 := by omega
        have e2 : 0 + 0 + (4 * (i : Int) + 2).toNat + 0 = 4 * i + 2 := by omega
        have e3 : 0 + 0 + (4 * (i : Int) + 3).toNat + 0 = 4 * i + 3 := by omega
        rw [e0, e1, e2, e3]
        rfl
      · rename_i h16
        refine ⟨64 - (i + 1), _, by omega, at4 (i := 1) (j := 2) (k := 3) (l := 4) rfl rfl rfl (congrArg (fun z => AV.d (D.int .i64 z)) (wi (m := i + 1) (by omega) (by omega))), i + 1, by omega, rfl, ?_⟩
        refine congrArg (fun l => (⟨[(1, .ptr 0 0 0 0), (2, .ptr 1 0 0 0), (3, .ptr 2 0 0 0), (4, .d (.int .i64 ((i + 1 : Nat) : Int)))], [.arr (cl (u8D B)) 1 0, .arr (cl (u32D (List.replicate 64 0))) 1 0, .arr l 1 0]⟩ : AS)) ?_
        rw [cl_seti, wordsQ, hLe, wordQ, if_neg (by omega)]
        simp (disch := omega) only [wrap64_id]
        have e0 : 0 + 0 + ((i : Int) - 2).toNat + 0 = i - 2 := by omega
        have e1 : 0 + 0 + ((i : Int) - 7).toNat + 0 = i - 7 := by omega
        have e2 : 0 + 0 + ((i : Int) - 15).toNat + 0 = i - 15 := by omega
        have e3 : 0 + 0 + ((i : Int) - 16).toNat + 0 = i - 16 := by omega
        rw [e0, e1, e2, e3]
        rfl
      · have : i = 64 := by omega
        subst this
        rw [← hLe]
    · cases h
  · cases h
end Go.Proofs.Ytejejeginfjnjaa
