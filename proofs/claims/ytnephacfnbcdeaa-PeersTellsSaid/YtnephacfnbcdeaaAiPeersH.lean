/- ref12.Match. -/
import Derived.Test.YtnephacfnbcdeaaAiPeersG
import Derived.Test.YtnephacfnbcdeaaAiPeersJ
namespace Go.Proofs.Ytnephacfnbcdeaa
open Go Go.AI

def cntM (ms : List Int) (v : Int) : List Nat → Nat
  | [] => 0
  | x :: l => (decide (v ≤ atM ms x)).toNat + cntM ms v l
def stepM (ms : List Int) (L : List Nat) (p : Int × Bool) (x : Nat) : Int × Bool :=
  if (decide (L.length < 2 * cntM ms (atM ms x) L) && (!p.2 || decide (p.1 < atM ms x))) = true then (atM ms x, true) else p
def foldM (ms : List Int) (L : List Nat) (i : Nat) : Int × Bool := (L.take i).foldl (stepM ms L) (0, false)
def refM (c : Int) (ms : List Int) : Int := (foldM ms (upTo (msk c) 7) (upTo (msk c) 7).length).1

def S17 : List AV → Option AV
  | [.d (.int .i64 c), .agg [.d (.int .i64 a0), .d (.int .i64 a1), .d (.int .i64 a2), .d (.int .i64 a3), .d (.int .i64 a4), .d (.int .i64 a5), .d (.int .i64 a6)]] => some (.d (.int .i64 (refM c [a0, a1, a2, a3, a4, a5, a6])))
  | _ => none

def objM (ms : List Int) : List AObj := [.var [.d (.int .i64 (ms.getD 0 0)), .d (.int .i64 (ms.getD 1 0)), .d (.int .i64 (ms.getD 2 0)), .d (.int .i64 (ms.getD 3 0)), .d (.int .i64 (ms.getD 4 0)), .d (.int .i64 (ms.getD 5 0)), .d (.int .i64 (ms.getD 6 0))] 0]
def st17 (ms : List Int) (L : List Nat) (i : Nat) : AS :=
  ⟨[(3, .ptr 0 0 0 0), (5, .d (.sl (rowsN L))), (6, .d (.int .i64 (foldM ms L i).1)), (7, .d (.bool (foldM ms L i).2)), (8, .d (.int .i64 i))], objM ms⟩
def st17k (ms : List Int) (L : List Nat) (i k : Nat) : AS :=
  ⟨[(3, .ptr 0 0 0 0), (5, .d (.sl (rowsN L))), (6, .d (.int .i64 (foldM ms L i).1)), (7, .d (.bool (foldM ms L i).2)), (8, .d (.int .i64 i)), (9, .d (.int .i64 (cntM ms (atM ms (L.getD i 0)) (L.take k)))), (10, .d (.int .i64 k))], objM ms⟩

theorem at7 {σ : AS} {i j k l m n o : Nat} {a b c d e f g : AV} (h1 : σ.get i = a) (h2 : σ.get j = b) (h3 : σ.get k = c) (h4 : σ.get l = d) (h5 : σ.get m = e) (h6 : σ.get n = f) (h7 : σ.get o = g) : Weak σ ⟨[(i, a), (j, b), (k, c), (l, d), (m, e), (n, f), (o, g)], σ.objs⟩ :=
  Weak.at _ fun p hp => by
    simp only [List.mem_cons, List.not_mem_nil, or_false] at hp
    rcases hp with rfl | rfl | rfl | rfl | rfl | rfl | rfl
    · exact h1
    · exact h2
    · exact h3
    · exact h4
    · exact h5
    · exact h6
    · exact h7

theorem upTo_lt {m : Nat} : ∀ {i x : Nat}, x ∈ upTo m i → x < i := by
  intro i
  induction i with
  | zero => intro x h; cases h
  | succ i ih =>
    intro x h
    simp only [upTo] at h
    split at h
    · rcases List.mem_append.1 h with h | h
      · have := ih h; omega
      · simp at h; omega
    · have := ih h; omega

theorem row_at {L : List Nat} {i v : Nat} (hi : i < L.length) (hv : L.getD i 0 = v) : Side (0 ≤ (i : Int) ∧ (i : Int) < (rowsN L).length ∧ (rowsN L).getD (i : Int).toNat [] = [D.int .i64 (v : Nat)]) := by
  refine ⟨by omega, by simp [rowsN]; exact hi, ?_⟩
  have hv' : L[i] = v := by rw [← hv]; simp [List.getD_eq_getElem?_getD, hi]
  simp [rowsN, List.getD_eq_getElem?_getD, hi, hv']

theorem cntM_append (ms : List Int) (v : Int) (l m : List Nat) : cntM ms v (l ++ m) = cntM ms v l + cntM ms v m := by
  induction l with
  | nil => simp [cntM]
  | cons x l ih => simp only [List.cons_append, cntM, ih]; omega

theorem cntM_le (ms : List Int) (v : Int) (l : List Nat) : cntM ms v l ≤ l.length := by
  induction l with
  | nil => simp [cntM]
  | cons x l ih => simp only [cntM, List.length_cons]; cases decide (v ≤ atM ms x) <;> simp <;> omega

theorem cntM_succ (ms : List Int) (v : Int) {L : List Nat} {k : Nat} (hk : k < L.length) : cntM ms v (L.take (k + 1)) = cntM ms v (L.take k) + (decide (v ≤ atM ms (L.getD k 0))).toNat := by
  rw [List.take_succ_eq_append_getElem hk, cntM_append]
  have e : L.getD k 0 = L[k] := by simp [List.getD_eq_getElem?_getD, hk]
  rw [e]
  simp [cntM]

theorem mat (a0 a1 a2 a3 a4 a5 a6 : Int) {v : Nat} (h : v < 7) : Side (tyAgg ty3 = false ∧ 0 + (v : Int).toNat * ty3.size < (cellsM a0 a1 a2 a3 a4 a5 a6).length ∧ (cellsM a0 a1 a2 a3 a4 a5 a6).getD (0 + (v : Int).toNat * ty3.size) .undef = .d (.int .i64 (atM [a0, a1, a2, a3, a4, a5, a6] v))) := by
  have e : 0 + (v : Int).toNat * ty3.size = v := by show 0 + (v : Int).toNat * 1 = v; omega
  rw [e]
  exact ⟨rfl, h, cellsM_at _ _ _ _ _ _ _ h⟩

theorem foldM_succ (ms : List Int) {L : List Nat} {i : Nat} (hi : i < L.length) : foldM ms L (i + 1) = stepM ms L (foldM ms L i) (L.getD i 0) := by
  unfold foldM
  rw [List.take_succ_eq_append_getElem hi, List.foldl_append]
  have e : L.getD i 0 = L[i] := by simp [List.getD_eq_getElem?_getD, hi]
  rw [e]
  rfl

set_option maxHeartbeats 10000000 in
theorem S17_ok : SpecOk Try.prog 17 S17 := by
  refine spec_of T_ok (tblAdd_ok S38_ok (tblS_ok (t := 3) (n := 7) (tbl0_ok _))) mixed Try.func17 (by kernel_rfl) rfl (by kernel_rfl) ?_
  intro args r h
  unfold S17 at h
  split at h
  · rename_i c a0 a1 a2 a3 a4 a5 a6
    cases h
    refine ⟨by simp [Try.f17], rfl, rfl, ?_⟩
    conv => whnf
    have hle := upTo_length (msk c) 7
    refine ⟨fun k σ => ∃ i, i ≤ (upTo (msk c) 7).length ∧ k = (upTo (msk c) 7).length - i ∧ σ = st17 [a0, a1, a2, a3, a4, a5, a6] (upTo (msk c) 7) i, (upTo (msk c) 7).length, ⟨_, at5 (i := 3) (j := 5) (k := 6) (l := 7) (m := 8) rfl rfl rfl rfl rfl, 0, by omega, rfl, rfl⟩, ?_⟩
    rintro k σ ⟨i, hi, rfl, hσ⟩
    unfold st17 at hσ
    subst hσ
    repeat' (first | ((conv => whnf); intro _ _) | ((conv => whnf); refine And.intro ?_ ?_ <;> intro h <;> cases h) | fail)
    all_goals (conv => whnf)
    · rename_i h7
      have hil : i < (upTo (msk c) 7).length := by
        have := of_decide_eq_true h7.symm
        simp [rowsN] at this
        omega
      generalize hL : upTo (msk c) 7 = L at *
      have hlt : ∀ x, x < L.length → L.getD x 0 < 7 := by
        intro x hx
        have e : L.getD x 0 = L[x] := by simp [List.getD_eq_getElem?_getD, hx]
        rw [e]
        exact upTo_lt (m := msk c) (by rw [hL]; exact List.getElem_mem hx)
      refine ⟨fun k σ => ∃ j, j ≤ L.length ∧ k = L.length - j ∧ σ = st17k [a0, a1, a2, a3, a4, a5, a6] L i j, L.length, ⟨_, at7 (i := 3) (j := 5) (k := 6) (l := 7) (m := 8) (n := 9) (o := 10) rfl rfl rfl rfl rfl rfl rfl, 0, by omega, rfl, rfl⟩, ?_⟩
      rintro k σ ⟨j, hj, rfl, hσ⟩
      unfold st17k at hσ
      subst hσ
      by_cases hjl : j < L.length
      · have hc := cntM_succ [a0, a1, a2, a3, a4, a5, a6] (atM [a0, a1, a2, a3, a4, a5, a6] (L.getD i 0)) hjl
        have b1 := hlt i hil
        have b2 := hlt j hjl
        obtain ⟨v1, hv1⟩ : ∃ v, L.getD i 0 = v := ⟨_, rfl⟩
        obtain ⟨v2, hv2⟩ : ∃ v, L.getD j 0 = v := ⟨_, rfl⟩
        have hr1 := row_at hil hv1
        have hr2 := row_at hjl hv2
        have hcl := cntM_le [a0, a1, a2, a3, a4, a5, a6] (atM [a0, a1, a2, a3, a4, a5, a6] (L.getD i 0)) (L.take j)
        have hcl2 : (L.take j).length ≤ 7 := by simp; omega
        rw [hv1] at b1 hc hcl ⊢
        rw [hv2] at b2 hc
        have hm1 := mat a0 a1 a2 a3 a4 a5 a6 b1
        have hm2 := mat a0 a1 a2 a3 a4 a5 a6 b2
        repeat' (first | ((conv => whnf); intro _ _) | ((conv => whnf); refine And.intro ?_ ?_ <;> intro h <;> cases h) | ((conv => whnf); refine ⟨_, And.intro hr2 ?_⟩) | ((conv => whnf); refine ⟨_, And.intro hr1 ?_⟩) | ((conv => whnf); refine ⟨_, And.intro hm2 ?_⟩) | ((conv => whnf); refine ⟨_, And.intro hm1 ?_⟩) | ((conv => whnf); refine And.intro (?_ : Side _) ?_) | fail)
        all_goals (conv => whnf)
        all_goals first
          | exact ⟨by omega, by omega⟩
          | (exfalso; have hf := of_decide_eq_false (Eq.symm ‹false = decide ((j : Int) < ((rowsN L).length : Nat))›); simp [rowsN] at hf; omega)
          | skip
        · rename_i hb
          rw [← hb] at hc
          refine ⟨L.length - (j + 1), _, by omega, at7 (i := 3) (j := 5) (k := 6) (l := 7) (m := 8) (n := 9) (o := 10) rfl rfl rfl rfl rfl (congrArg (fun z => AV.d (D.int .i64 z)) (nats_i64 (by omega))) (congrArg (fun z => AV.d (D.int .i64 z)) (nats_i64 (by omega))), j + 1, by omega, rfl, ?_⟩
          rw [st17k, hv1, hc]
          rfl
        · rename_i hb
          rw [← hb] at hc
          refine ⟨L.length - (j + 1), _, by omega, at7 (i := 3) (j := 5) (k := 6) (l := 7) (m := 8) (n := 9) (o := 10) rfl rfl rfl rfl rfl rfl (congrArg (fun z => AV.d (D.int .i64 z)) (nats_i64 (by omega))), j + 1, by omega, rfl, ?_⟩
          rw [st17k, hv1, hc]
          rfl
      · have hje : j = L.length := by omega
        subst hje
        obtain ⟨v1, hv1⟩ : ∃ v, L.getD i 0 = v := ⟨_, rfl⟩
        have b1 := hlt i hil
        have hr1 := row_at hil hv1
        have hs := foldM_succ [a0, a1, a2, a3, a4, a5, a6] hil
        have hcl := cntM_le [a0, a1, a2, a3, a4, a5, a6] (atM [a0, a1, a2, a3, a4, a5, a6] (L.getD i 0)) L
        rw [List.take_length, hv1]
        rw [hv1] at b1 hs hcl
        have hm1 := mat a0 a1 a2 a3 a4 a5 a6 b1
        have hd : decide (((rowsN L).length : Int) < IntKind.i64.wrap (2 * (cntM [a0, a1, a2, a3, a4, a5, a6] (atM [a0, a1, a2, a3, a4, a5, a6] v1) L : Nat))) = decide (L.length < 2 * cntM [a0, a1, a2, a3, a4, a5, a6] (atM [a0, a1, a2, a3, a4, a5, a6] v1) L) := by
          rw [show (2 * (cntM [a0, a1, a2, a3, a4, a5, a6] (atM [a0, a1, a2, a3, a4, a5, a6] v1) L : Nat) : Int) = ((2 * cntM [a0, a1, a2, a3, a4, a5, a6] (atM [a0, a1, a2, a3, a4, a5, a6] v1) L : Nat) : Int) by omega, wrapi_nat _ (by omega), rowsN, List.length_map]
          simp only [Int.ofNat_lt]
        repeat' (first | ((conv => whnf); intro _ _) | ((conv => whnf); refine And.intro ?_ ?_ <;> intro h <;> cases h) | ((conv => whnf); refine ⟨_, And.intro hr1 ?_⟩) | ((conv => whnf); refine ⟨_, And.intro hm1 ?_⟩) | ((conv => whnf); refine And.intro (?_ : Side _) ?_) | fail)
        all_goals (conv => whnf)
        all_goals first
          | exact ⟨by omega, by omega⟩
          | (exfalso; have hf := of_decide_eq_true (Eq.symm ‹true = decide ((L.length : Int) < ((rowsN L).length : Nat))›); rw [rowsN, List.length_map] at hf; omega)
          | skip
        · rename_i g1 g2
          rw [hd] at g1
          rw [stepM, ← g1, ← g2] at hs
          refine ⟨L.length - (i + 1), _, by omega, at5 (i := 3) (j := 5) (k := 6) (l := 7) (m := 8) rfl rfl rfl rfl (congrArg (fun z => AV.d (D.int .i64 z)) (nats_i64 (by omega))), i + 1, by omega, rfl, ?_⟩
          rw [st17, hs]
          rfl
        · rename_i g1 g2 g3
          rw [hd] at g1
          rw [stepM, ← g1, ← g2, ← g3] at hs
          refine ⟨L.length - (i + 1), _, by omega, at5 (i := 3) (j := 5) (k := 6) (l := 7) (m := 8) rfl rfl rfl rfl (congrArg (fun z => AV.d (D.int .i64 z)) (nats_i64 (by omega))), i + 1, by omega, rfl, ?_⟩
          rw [st17, hs]
          rfl
        · rename_i g1 g2 g3
          rw [hd] at g1
          rw [stepM, ← g1, ← g2, ← g3] at hs
          refine ⟨L.length - (i + 1), _, by omega, at5 (i := 3) (j := 5) (k := 6) (l := 7) (m := 8) rfl rfl rfl rfl (congrArg (fun z => AV.d (D.int .i64 z)) (nats_i64 (by omega))), i + 1, by omega, rfl, ?_⟩
          rw [st17, hs]
          rfl
        · rename_i g1
          rw [hd] at g1
          rw [stepM, ← g1] at hs
          refine ⟨L.length - (i + 1), _, by omega, at5 (i := 3) (j := 5) (k := 6) (l := 7) (m := 8) rfl rfl rfl rfl (congrArg (fun z => AV.d (D.int .i64 z)) (nats_i64 (by omega))), i + 1, by omega, rfl, ?_⟩
          rw [st17, hs]
          rfl
    · have hf := of_decide_eq_false (Eq.symm ‹false = decide ((i : Int) < ((rowsN (upTo (msk c) 7)).length : Nat))›)
      rw [rowsN, List.length_map] at hf
      have : i = (upTo (msk c) 7).length := by omega
      rw [this]
      rfl
  · cases h

end Go.Proofs.Ytnephacfnbcdeaa
