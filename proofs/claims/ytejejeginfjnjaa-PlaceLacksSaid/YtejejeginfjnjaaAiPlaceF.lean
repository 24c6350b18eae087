/- What a block makes of words, as the document makes it. -/
import Derived.Test.YtejejeginfjnjaaAiPlaceE
namespace Go.Proofs.Ytejejeginfjnjaa
open Go Go.AI
set_option linter.unusedVariables false

def not32 (a : Int) : Int := w32 (BitVec.ofInt 32 IntKind.u32.max ^^^ BitVec.ofInt 32 a).toNat
def xQ (s : W8) (k w : Int) : Int := w32 (w32 (w32 (w32 (s.h + xor32 (xor32 (rotQ s.e 6) (rotQ s.e 11)) (rotQ s.e 25)) + xor32 (and32 s.e s.f) (and32 (not32 s.e) s.g)) + k) + w)
def yQ (s : W8) : Int := w32 (xor32 (xor32 (rotQ s.a 2) (rotQ s.a 13)) (rotQ s.a 22) + xor32 (xor32 (and32 s.a s.b) (and32 s.a s.c)) (and32 s.b s.c))
def roundQ (s : W8) (k w : Int) : W8 := ⟨w32 (xQ s k w + yQ s), s.a, s.b, s.c, w32 (s.d + xQ s k w), s.e, s.f, s.g⟩
def roundsQ (W : List Int) (s : W8) : Nat → W8
  | 0 => s
  | i + 1 => roundQ (roundsQ W s i) (K64.getD i 0) (W.getD i 0)
def addsQ (S : List Int) : List Int → Nat → List Int
  | H, 0 => H
  | H, i + 1 => (addsQ S H i).set i (w32 ((addsQ S H i).getD i 0 + S.getD i 0))
theorem addsQ_length (S H : List Int) (i : Nat) : (addsQ S H i).length = H.length := by
  induction i with
  | zero => rfl
  | succ i ih => simp [addsQ, ih]
def blockWQ (W : List Int) (H : W8) : List Int := addsQ (roundsQ W H 64).list H.list 8
def blockQ (H : W8) (B : List Int) : List Int := blockWQ (wordsQ B 64) H

def tr66 : Tr := .one 0 (.one 1 (.one 2 (.alt 3 (.alt 4 (.alt 5 (.one 6 (.one 7 (.one 8 (.one 9 (.done))))) (.alt 6 (.one 5 (.one 7 (.one 8 (.one 9 (.done))))) (.stop))) (.alt 5 (.alt 4 (.one 6 (.one 7 (.one 8 (.one 9 (.done))))) (.alt 6 (.one 4 (.one 7 (.one 8 (.one 9 (.done))))) (.stop))) (.alt 6 (.alt 4 (.one 5 (.one 7 (.one 8 (.one 9 (.done))))) (.alt 5 (.one 4 (.one 7 (.one 8 (.one 9 (.done))))) (.stop))) (.stop)))) (.alt 4 (.alt 3 (.alt 5 (.one 6 (.one 7 (.one 8 (.one 9 (.done))))) (.alt 6 (.one 5 (.one 7 (.one 8 (.one 9 (.done))))) (.stop))) (.alt 5 (.alt 3 (.one 6 (.one 7 (.one 8 (.one 9 (.done))))) (.alt 6 (.alt 3 (.one 7 (.one 8 (.one 9 (.done)))) (.alt 7 (.alt 3 (.one 8 (.one 9 (.done))) (.alt 8 (.one 3 (.one 9 (.done))) (.stop))) (.stop))) (.stop))) (.alt 6 (.alt 3 (.one 5 (.one 7 (.one 8 (.one 9 (.done))))) (.alt 5 (.alt 3 (.one 7 (.one 8 (.one 9 (.done)))) (.alt 7 (.alt 3 (.one 8 (.one 9 (.done))) (.alt 8 (.one 3 (.one 9 (.done))) (.stop))) (.stop))) (.stop))) (.stop)))) (.alt 5 (.alt 3 (.alt 4 (.one 6 (.one 7 (.one 8 (.one 9 (.done))))) (.alt 6 (.one 4 (.one 7 (.one 8 (.one 9 (.done))))) (.stop))) (.alt 4 (.alt 3 (.one 6 (.one 7 (.one 8 (.one 9 (.done))))) (.alt 6 (.alt 3 (.one 7 (.one 8 (.one 9 (.done)))) (.alt 7 (.alt 3 (.one 8 (.one 9 (.done))) (.alt 8 (.one 3 (.one 9 (.done))) (.stop))) (.stop))) (.stop))) (.alt 6 (.alt 3 (.one 4 (.one 7 (.one 8 (.one 9 (.done))))) (.alt 4 (.alt 3 (.one 7 (.one 8 (.one 9 (.done)))) (.alt 7 (.alt 3 (.one 8 (.one 9 (.done))) (.alt 8 (.one 3 (.one 9 (.done))) (.stop))) (.stop))) (.stop))) (.stop)))) (.alt 6 (.alt 3 (.alt 4 (.one 5 (.one 7 (.one 8 (.one 9 (.done))))) (.alt 5 (.one 4 (.one 7 (.one 8 (.one 9 (.done))))) (.stop))) (.alt 4 (.alt 3 (.one 5 (.one 7 (.one 8 (.one 9 (.done))))) (.alt 5 (.alt 3 (.one 7 (.one 8 (.one 9 (.done)))) (.alt 7 (.alt 3 (.one 8 (.one 9 (.done))) (.alt 8 (.one 3 (.one 9 (.done))) (.stop))) (.stop))) (.stop))) (.alt 5 (.alt 3 (.one 4 (.one 7 (.one 8 (.one 9 (.done))))) (.alt 4 (.alt 3 (.one 7 (.one 8 (.one 9 (.done)))) (.alt 7 (.alt 3 (.one 8 (.one 9 (.done))) (.alt 8 (.one 3 (.one 9 (.done))) (.stop))) (.stop))) (.stop))) (.stop)))) (.stop)))))))

def ob66 (H : W8) (B W : List Int) (S : List (List D)) : List AObj := [.arr (rows8 H) 1 0, .arr (cl (u8D B)) 1 0, .arr (cl (u32D (List.replicate 8 0))) 1 0, .arr (cl (u32D W)) 1 0, .arr (cl (u32D K64)) 1 0, .arr S 1 0]
def st66 (H : W8) (B W : List Int) (S : W8) (i : Nat) : AS := ⟨[(2, .ptr 0 0 0 0), (4, .ptr 2 0 0 0), (5, .ptr 3 0 0 0), (6, .ptr 4 0 0 0), (7, .ptr 5 0 0 0), (8, .d (.int .i64 i))], ob66 H B W (rows8 S)⟩
def st66b (H : W8) (L B W : List Int) (S : W8) (i : Nat) : AS := ⟨[(2, .ptr 0 0 0 0), (4, .ptr 2 0 0 0), (7, .ptr 5 0 0 0), (13, .d (.int .i64 i))], [.arr (cl (u32D L)) 1 0, .arr (cl (u8D B)) 1 0, .arr (cl (u32D (List.replicate 8 0))) 1 0, .arr (cl (u32D W)) 1 0, .arr (cl (u32D K64)) 1 0, .arr (rows8 S) 1 0]⟩

def S66 : List AV → Option AV
  | [.ar hs, .ar bs] => if (hs.all isU32 = true ∧ hs.length = 8) ∧ bs.all isU8 = true ∧ bs.length = 64 then (match hs.map numD with
    | [a, b, c, d, e, f, g, h] => some (.ar (u32D (blockQ ⟨a, b, c, d, e, f, g, h⟩ (bs.map numD))))
    | _ => none) else none
  | _ => none

theorem ob66_eq {H : W8} {B W : List Int} {a b c : List (List D)} (ha : a = cl (u32D W)) (hb : b = cl (u32D K64)) (hc : c = rows8 H) :
    [AObj.arr (rows8 H) 1 0, .arr (cl (u8D B)) 1 0, .arr (cl (u32D (List.replicate 8 0))) 1 0, .arr a 1 0, .arr b 1 0, .arr c 1 0] = ob66 H B W (rows8 H) := by
  subst ha hb hc; rfl
def idAt (σ : AS) (t : Nat) : Nat := match σ.get t with
  | .ptr id _ _ _ => id
  | _ => 0
theorem leaf66 {H : W8} {B W : List Int} {σ : AS} {a b c : List (List D)} (h0 : locOk σ.objs [0, 1, 2, idAt σ 5, idAt σ 6, idAt σ 7] = true)
    (hob : locO σ.objs [0, 1, 2, idAt σ 5, idAt σ 6, idAt σ 7] = [AObj.arr (rows8 H) 1 0, .arr (cl (u8D B)) 1 0, .arr (cl (u32D (List.replicate 8 0))) 1 0, .arr a 1 0, .arr b 1 0, .arr c 1 0])
    (ht : permAt σ [0, 1, 2, idAt σ 5, idAt σ 6, idAt σ 7] [(2, .ptr 0 0 0 0), (4, .ptr 2 0 0 0), (5, .ptr 3 0 0 0), (6, .ptr 4 0 0 0), (7, .ptr 5 0 0 0)])
    (ha : a = cl (u32D W)) (hb : b = cl (u32D K64)) (hc : c = rows8 H) :
    WeakN 3 σ ⟨[(2, .ptr 0 0 0 0), (4, .ptr 2 0 0 0), (5, .ptr 3 0 0 0), (6, .ptr 4 0 0 0), (7, .ptr 5 0 0 0)], ob66 H B W (rows8 H)⟩ :=
  WeakN.perm _ h0 rfl (hob.trans (ob66_eq ha hb hc)) ht

set_option maxHeartbeats 4000000 in
theorem S66_ok : SpecOk Try.prog 66 S66 := by
  obtain ⟨f83, hf83⟩ : ∃ f, f = S83 := ⟨_, rfl⟩
  have htb : TblOk Try.prog (tblD 1 tr66 (tblAdd 83 f83 (tblAdd 85 S85 (tblAdd 84 S84 (tblA 73 (tblA 75 (tblA 92 tbl0))))))) := by
    subst hf83
    exact tblD_ok (tblAdd_ok S83_ok (tblAdd_ok S85_ok (tblAdd_ok S84_ok (tblA_ok (tblA_ok (tblA_ok (tbl0_ok _)))))))
  refine spec_of T_ok htb mixed Try.func66 (by kernel_rfl) rfl (by kernel_rfl) ?_
  intro args res h
  unfold S66 at h
  split at h
  · rename_i hs bs
    split at h
    · rename_i hc
      obtain ⟨⟨h1, h2⟩, h3, h4⟩ := hc
      have h1 := u32D_of h1
      have h3 := u8D_of h3
      have h5 : (hs.map numD).length = 8 := by rw [List.length_map]; exact h2
      generalize hs.map numD = HL at h1 h5 h
      generalize bs.map numD = B at h3 h
      subst h1 h3
      obtain ⟨H, rfl⟩ := w8_of h5
      rw [u8D_length] at h4
      cases h
      refine ⟨by simp [Try.f66], rfl, rfl, ?_⟩
      have et : f83 [.ar (u8D B)] = some (.ar (u32D (wordsQ B 64))) := by
        rw [hf83]
        have e1 : (u8D B).all isU8 = true := by simp [u8D, isU8]
        have e2 : (u8D B).map numD = B := by simp [u8D, numD, Function.comp_def]
        simp only [S83]
        rw [if_pos ⟨e1, by rw [u8D_length, h4]⟩, e2]
      unfold blockQ
      have hW := wordsQ_length B 64
      generalize wordsQ B 64 = W at hW et ⊢
      conv => whnf
      refine ⟨⟨[(2, .ptr 0 0 0 0), (4, .ptr 2 0 0 0), (5, .ptr 3 0 0 0), (6, .ptr 4 0 0 0), (7, .ptr 5 0 0 0)], ob66 H B W (rows8 H)⟩, ?_, ?_⟩
      · conv => whnf
        repeat' (first | ((conv => whnf); refine And.intro (?_ : Side _) ?_) | ((conv => whnf); refine ldAll ?_ ?_) | ((conv => whnf); generalize hX : Tbl.c _ _ _ = X; cases (hX.symm.trans et : X = some _)) | ((conv => whnf); refine And.intro ?_ ?_) | fail)
        all_goals (conv => whnf)
        all_goals try (refine ⟨?_⟩; (try simp only [u32D_length, u8D_length, hW, w8_len, List.length_map]); (repeat' apply And.intro) <;> first | rfl | trivial | decide | exact h4)
        all_goals try trivial
        all_goals first
          | exact leaf66 rfl rfl ⟨⟨rfl, rfl⟩, ⟨rfl, rfl⟩, ⟨rfl, rfl⟩, ⟨rfl, rfl⟩, ⟨rfl, rfl⟩, trivial⟩ (setR_all (by simp only [List.length_map, u32D_length, hW]; rfl)) (setR_all rfl) (setR_all rfl)
          | skip
      conv => whnf
      refine ⟨fun k σ => ∃ i, i ≤ 64 ∧ k = 64 - i ∧ σ = st66 H B W (roundsQ W H i) i, 64, ⟨_, atL [(2, .ptr 0 0 0 0), (4, .ptr 2 0 0 0), (5, .ptr 3 0 0 0), (6, .ptr 4 0 0 0), (7, .ptr 5 0 0 0), (8, .d (.int .i64 0))] ⟨rfl, rfl, rfl, rfl, rfl, rfl, trivial⟩, 0, by omega, rfl, rfl⟩, ?_⟩
      rintro k σ ⟨i, hi, rfl, rfl⟩
      generalize hSe : roundsQ W H i = S
      repeat' (first | ((conv => whnf); intro _ _) | ((conv => whnf); refine And.intro ?_ ?_ <;> intro h <;> cases h) | ((conv => whnf); refine ld32 ?_ ?_) | ((conv => whnf); refine ldC rfl rfl (Nat.le_of_ble_eq_true rfl) ?_) | ((conv => whnf); refine And.intro (?_ : Side _) ?_) | fail)
      all_goals (conv => whnf)
      all_goals simp only [true_eq_decide_iff, false_eq_decide_iff] at *
      all_goals first
        | (refine ⟨?_⟩; (try simp (disch := omega) only [hW, K64_len]); (repeat' apply And.intro) <;> first | omega | rfl | trivial | exact Nat.le_of_ble_eq_true rfl | (show (i : Int).toNat + 0 < 64; omega) | (intro r hr; simp [rows8] at hr; rcases hr with rfl | rfl | rfl | rfl | rfl | rfl | rfl <;> rfl))
        | skip
      · refine ⟨64 - (i + 1), _, by omega, atL [(2, .ptr 0 0 0 0), (4, .ptr 2 0 0 0), (5, .ptr 3 0 0 0), (6, .ptr 4 0 0 0), (7, .ptr 5 0 0 0), (8, .d (.int .i64 ((i + 1 : Nat) : Int)))] ⟨rfl, rfl, rfl, rfl, rfl, congrArg (fun z => AV.d (D.int .i64 z)) (wi (m := i + 1) (by omega) (by omega)), trivial⟩, i + 1, by omega, rfl, ?_⟩
        have e2 : 0 + 0 + (i : Int).toNat + 0 = i := by omega
        refine congrArg (AS.mk _) ?_
        dsimp only
        rw [roundsQ, hSe, e2]
        rfl
      · have : i = 64 := by omega
        subst this
        refine ⟨fun k σ => ∃ i, i ≤ 8 ∧ k = 8 - i ∧ σ = st66b H (addsQ S.list H.list i) B W S i, 8, ⟨_, atL [(2, .ptr 0 0 0 0), (4, .ptr 2 0 0 0), (7, .ptr 5 0 0 0), (13, .d (.int .i64 0))] ⟨rfl, rfl, rfl, rfl, trivial⟩, 0, by omega, rfl, rfl⟩, ?_⟩
        rintro k σ ⟨i, hi, rfl, rfl⟩
        have hL : (addsQ S.list H.list i).length = 8 := by rw [addsQ_length]; rfl
        generalize hLe : addsQ S.list H.list i = L at hL
        have eS : rows8 S = cl (u32D S.list) := rfl
        simp only [st66b, eS]
        repeat' (first | ((conv => whnf); intro _ _) | ((conv => whnf); refine And.intro ?_ ?_ <;> intro h <;> cases h) | ((conv => whnf); refine ld32 ?_ ?_) | ((conv => whnf); refine ldAll ?_ ?_) | ((conv => whnf); refine ldSet ?_ ?_) | ((conv => whnf); refine And.intro (?_ : Side _) ?_) | fail)
        all_goals (conv => whnf)
        all_goals simp only [true_eq_decide_iff, false_eq_decide_iff] at *
        all_goals first
          | (refine ⟨?_⟩; (try simp (disch := omega) only [cl_length, u32D_length, hL, w8_len, List.length_replicate]); (repeat' apply And.intro) <;> first | omega | rfl | trivial | exact Nat.le_of_ble_eq_true rfl)
          | skip
        · refine ⟨8 - (i + 1), _, by omega, atL [(2, .ptr 0 0 0 0), (4, .ptr 2 0 0 0), (7, .ptr 5 0 0 0), (13, .d (.int .i64 ((i + 1 : Nat) : Int)))] ⟨rfl, rfl, rfl, congrArg (fun z => AV.d (D.int .i64 z)) (wi (m := i + 1) (by omega) (by omega)), trivial⟩, i + 1, by omega, rfl, ?_⟩
          have e2 : 0 + 0 + (i : Int).toNat + 0 = i := by omega
          refine congrArg (AS.mk _) ?_
          dsimp only
          rw [cl_seti, addsQ, hLe, e2]
          rfl
        · have : i = 8 := by omega
          subst this
          rw [blockWQ, hSe, hLe]
    · cases h
  · cases h
end Go.Proofs.Ytejejeginfjnjaa
