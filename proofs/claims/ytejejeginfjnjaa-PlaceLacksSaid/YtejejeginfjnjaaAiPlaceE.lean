/- What a block makes of words, as the program makes it. -/
import Derived.Test.YtejejeginfjnjaaAiPlaceD
namespace Go.Proofs.Ytejejeginfjnjaa
open Go Go.AI
set_option linter.unusedVariables false

structure W8 where
  a : Int
  b : Int
  c : Int
  d : Int
  e : Int
  f : Int
  g : Int
  h : Int
def W8.list (s : W8) : List Int := [s.a, s.b, s.c, s.d, s.e, s.f, s.g, s.h]
def rows8 (s : W8) : List (List D) := [[.int .u32 s.a], [.int .u32 s.b], [.int .u32 s.c], [.int .u32 s.d], [.int .u32 s.e], [.int .u32 s.f], [.int .u32 s.g], [.int .u32 s.h]]
theorem w8_of {l : List Int} (h : l.length = 8) : ∃ s : W8, l = s.list := by
  match l, h with
  | [a, b, c, d, e, f, g, h], _ => exact ⟨⟨a, b, c, d, e, f, g, h⟩, rfl⟩
theorem w8_len (s : W8) : s.list.length = 8 := rfl

def xP (s : W8) (k w : Int) : Int := w32 (w32 (w32 (w32 (s.h + xor32 (xor32 (rotP s.e 6) (rotP s.e 11)) (rotP s.e 25)) + xor32 s.g (and32 s.e (xor32 s.f s.g))) + k) + w)
def yP (s : W8) : Int := w32 (xor32 (xor32 (rotP s.a 2) (rotP s.a 13)) (rotP s.a 22) + or32 (and32 s.a s.b) (and32 s.c (or32 s.a s.b)))
def roundP (s : W8) (k w : Int) : W8 := ⟨w32 (xP s k w + yP s), s.a, s.b, s.c, w32 (s.d + xP s k w), s.e, s.f, s.g⟩
def roundsP (W : List Int) (s : W8) : Nat → W8
  | 0 => s
  | i + 1 => roundP (roundsP W s i) (K64.getD i 0) (W.getD i 0)
def addsP (H L : List Int) : Nat → List Int
  | 0 => L
  | i + 1 => (addsP H L i).set i (w32 ((addsP H L i).getD i 0 + H.getD i 0))
theorem addsP_length (H L : List Int) (i : Nat) : (addsP H L i).length = L.length := by
  induction i with
  | zero => rfl
  | succ i ih => simp [addsP, ih]
def blockW (W : List Int) (H : W8) : List Int := addsP H.list (roundsP W H 64).list 8
def blockP (H : W8) (B : List Int) : List Int := blockW (wordsP B 64) H

def ob52 (H : W8) (B W : List Int) (S : List (List D)) : List AObj := [.arr (rows8 H) 1 0, .arr (cl (u8D B)) 1 0, .arr (cl (u32D (List.replicate 8 0))) 1 0, .arr (cl (u32D W)) 1 0, .arr (cl (u32D K64)) 1 0, .arr S 1 0]
def st52 (H : W8) (B W : List Int) (S : W8) (i : Nat) : AS := ⟨[(2, .ptr 0 0 0 0), (4, .ptr 2 0 0 0), (5, .ptr 3 0 0 0), (6, .ptr 4 0 0 0), (7, .ptr 5 0 0 0), (15, .d (.int .i64 i))], ob52 H B W (rows8 S)⟩
def st52b (H : W8) (B W L : List Int) (i : Nat) : AS := ⟨[(2, .ptr 0 0 0 0), (4, .ptr 2 0 0 0), (7, .ptr 5 0 0 0), (64, .d (.int .i64 i))], ob52 H B W (cl (u32D L))⟩

theorem K64_len : K64.length = 64 := rfl
theorem ldC {P : Prop} {rs : List (List D)} {pos : Nat} {k : List D → Prop} {r : List D} (h : P) (hr : rs.getD pos [] = r) (hl : pos < rs.length) (hk : k r) : ∃ r, Side (P ∧ pos < rs.length ∧ rs.getD pos [] = r) ∧ k r :=
  ⟨r, ⟨h, hl, hr⟩, hk⟩

def S52 : List AV → Option AV
  | [.ar hs, .ar bs] => if (hs.all isU32 = true ∧ hs.length = 8) ∧ bs.all isU8 = true ∧ bs.length = 64 then (match hs.map numD with
    | [a, b, c, d, e, f, g, h] => some (.ar (u32D (blockP ⟨a, b, c, d, e, f, g, h⟩ (bs.map numD))))
    | _ => none) else none
  | _ => none

set_option maxHeartbeats 1000000 in
theorem S52_ok : SpecOk Try.prog 52 S52 := by
  obtain ⟨f73, hf73⟩ : ∃ f, f = S73 := ⟨_, rfl⟩
  have htb : TblOk Try.prog (tblAddO 73 f73 (tblAdd 75 S75 (tblAdd 76 S76 (tblAdd 77 S77 (tblAdd 78 S78 (tblAdd 74 S74 (tblA 73 (tblA 75 (tblA 92 tbl0))))))))) := by
    subst hf73
    exact tblAddO_ok S73_ok (tblAdd_ok S75_ok (tblAdd_ok S76_ok (tblAdd_ok S77_ok (tblAdd_ok S78_ok (tblAdd_ok S74_ok (tblA_ok (tblA_ok (tblA_ok (tbl0_ok _)))))))))
  refine spec_of T_ok htb mixed Try.func52 (by kernel_rfl) rfl (by kernel_rfl) ?_
  intro args res h
  unfold S52 at h
  split at h
  · rename_i hs bs
    split at h
    · rename_i hc
      obtain ⟨⟨h1, h2⟩, h3, h4⟩ := hc
      have h1 := u32D_of h1
      have h3 := u8D_of h3
      have h5 : (hs.map numD).length = 8 := by rw [List.length_map]; exact h2
      generalize hs.map numD = HL at h1 h5 h
      generalize bs.map numD = B at h3 h
      subst h1 h3
      obtain ⟨H, rfl⟩ := w8_of h5
      rw [u8D_length] at h4
      cases h
      refine ⟨by simp [Try.f52], rfl, rfl, ?_⟩
      have et : f73 [.ptr 0 0 0 0] [.arr (cl (u8D B)) 1 0] = some (.ar (u32D (wordsP B 64)), [.arr (cl (u8D B)) 1 0]) := by
        rw [hf73]
        have e1 : (cl (u8D B)).all row8 = true := by simp [cl, u8D, row8]
        have e2 : (cl (u8D B)).map rowN = B := by simp [cl, u8D, rowN, Function.comp_def]
        simp only [S73]
        rw [if_pos ⟨e1, by rw [cl_length, u8D_length, h4]⟩, e2]
      unfold blockP
      conv => whnf
      generalize hX : Tbl.o _ _ _ _ = X
      cases (hX.symm.trans et : X = some _)
      have hW := wordsP_length B 64
      generalize wordsP B 64 = W at hW ⊢
      repeat' (first | ((conv => whnf); intro _ _) | ((conv => whnf); refine And.intro ?_ ?_ <;> intro h <;> cases h) | ((conv => whnf); refine ld32 ?_ ?_) | ((conv => whnf); refine ld8 ?_ ?_) | ((conv => whnf); refine ldAll ?_ ?_) | ((conv => whnf); refine ldSet ?_ ?_) | ((conv => whnf); refine And.intro (?_ : Side _) ?_) | fail)
      all_goals (conv => whnf)
      all_goals first
        | (refine ⟨?_⟩; (try simp only [u32D_length, hW, w8_len, List.length_map]); (repeat' apply And.intro) <;> first | rfl | trivial | decide)
        | skip
      have eW : ∀ z : List (List D), z.length = 64 → setR z (0 + 0) (List.map (fun d => [d]) (u32D W)) = cl (u32D W) := fun z hz => setR_all (by rw [List.length_map, u32D_length, hW, hz])
      refine ⟨fun k σ => ∃ i, i ≤ 64 ∧ k = 64 - i ∧ σ = st52 H B W (roundsP W H i) i, 64, ⟨_, atL [(2, .ptr 0 0 0 0), (4, .ptr 2 0 0 0), (5, .ptr 3 0 0 0), (6, .ptr 4 0 0 0), (7, .ptr 5 0 0 0), (15, .d (.int .i64 0))] ⟨rfl, rfl, rfl, rfl, rfl, rfl, trivial⟩, 0, by omega, rfl, ?_⟩, ?_⟩
      · refine congrArg (AS.mk _) ?_
        dsimp only
        rw [eW _ (by simp)]
        rfl
      rintro k σ ⟨i, hi, rfl, rfl⟩
      generalize hSe : roundsP W H i = S
      repeat' (first | ((conv => whnf); intro _ _) | ((conv => whnf); refine And.intro ?_ ?_ <;> intro h <;> cases h) | ((conv => whnf); refine ld32 ?_ ?_) | ((conv => whnf); refine ldC rfl rfl (Nat.le_of_ble_eq_true rfl) ?_) | ((conv => whnf); refine And.intro (?_ : Side _) ?_) | fail)
      all_goals (conv => whnf)
      all_goals simp only [true_eq_decide_iff, false_eq_decide_iff] at *
      all_goals first
        | (refine ⟨?_⟩; (try simp (disch := omega) only [hW, K64_len, List.length_set]); (repeat' apply And.intro) <;> first | omega | rfl | trivial | exact Nat.le_of_ble_eq_true rfl | (show (i : Int).toNat + 0 < 64; omega) | (intro r hr; simp [rows8] at hr; rcases hr with rfl | rfl | rfl | rfl | rfl | rfl | rfl <;> rfl))
        | skip
      · refine ⟨64 - (i + 1), _, by omega, atL [(2, .ptr 0 0 0 0), (4, .ptr 2 0 0 0), (5, .ptr 3 0 0 0), (6, .ptr 4 0 0 0), (7, .ptr 5 0 0 0), (15, .d (.int .i64 ((i + 1 : Nat) : Int)))] ⟨rfl, rfl, rfl, rfl, rfl, congrArg (fun z => AV.d (D.int .i64 z)) (wi (m := i + 1) (by omega) (by omega)), trivial⟩, i + 1, by omega, rfl, ?_⟩
        have e2 : 0 + 0 + (i : Int).toNat + 0 = i := by omega
        refine congrArg (AS.mk _) ?_
        dsimp only
        rw [roundsP, hSe, e2]
        rfl
      · have : i = 64 := by omega
        subst this
        refine ⟨fun k σ => ∃ i, i ≤ 8 ∧ k = 8 - i ∧ σ = st52b H B W (addsP H.list S.list i) i, 8, ⟨_, atL [(2, .ptr 0 0 0 0), (4, .ptr 2 0 0 0), (7, .ptr 5 0 0 0), (64, .d (.int .i64 0))] ⟨rfl, rfl, rfl, rfl, trivial⟩, 0, by omega, rfl, rfl⟩, ?_⟩
        rintro k σ ⟨i, hi, rfl, rfl⟩
        have hL : (addsP H.list S.list i).length = 8 := by rw [addsP_length]; rfl
        generalize hLe : addsP H.list S.list i = L at hL
        have eH : rows8 H = cl (u32D H.list) := rfl
        simp only [st52b, ob52, eH]
        repeat' (first | ((conv => whnf); intro _ _) | ((conv => whnf); refine And.intro ?_ ?_ <;> intro h <;> cases h) | ((conv => whnf); refine ld32 ?_ ?_) | ((conv => whnf); refine ldAll ?_ ?_) | ((conv => whnf); refine ldSet ?_ ?_) | ((conv => whnf); refine And.intro (?_ : Side _) ?_) | fail)
        all_goals (conv => whnf)
        all_goals simp only [true_eq_decide_iff, false_eq_decide_iff] at *
        all_goals first
          | (refine ⟨?_⟩; (try simp (disch := omega) only [cl_length, u32D_length, hL, w8_len, List.length_replicate]); (repeat' apply And.intro) <;> first | omega | rfl | trivial | exact Nat.le_of_ble_eq_true rfl)
          | skip
        · refine ⟨8 - (i + 1), _, by omega, atL [(2, .ptr 0 0 0 0), (4, .ptr 2 0 0 0), (7, .ptr 5 0 0 0), (64, .d (.int .i64 ((i + 1 : Nat) : Int)))] ⟨rfl, rfl, rfl, congrArg (fun z => AV.d (D.int .i64 z)) (wi (m := i + 1) (by omega) (by omega)), trivial⟩, i + 1, by omega, rfl, ?_⟩
          have e2 : 0 + 0 + (i : Int).toNat + 0 = i := by omega
          refine congrArg (AS.mk _) ?_
          dsimp only
          rw [cl_seti, addsP, hLe, e2]
          rfl
        · have : i = 8 := by omega
          subst this
          rw [blockW, hSe, hLe]
    · cases h
  · cases h
end Go.Proofs.Ytejejeginfjnjaa
