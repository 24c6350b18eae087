/- The greatest number that more than half have: the sort, the members' list, the walk. -/
import Derived.Test.YtnephacfnbcdeaaAiPeersI
import Derived.Test.YtnephacfnbcdeaaShelf
import Derived.Test.YtnephacfnbcdeaaAiU
namespace Go.Proofs.Ytnephacfnbcdeaa
open Go Go.AI Go.RowKit Go.Shelf

def cmpD (x y : Int) : Int := if y < x then -1 else if x < y then 1 else 0

theorem cmp_calls (x y : Int) (W : World) : Calls Try.prog 44 #[.int .i64 x, .int .i64 y] W fun e w' => e = .returned (.int .i64 (cmpD x y)) ∧ w' = W := by
  by_cases h1 : y < x
  · go_enter Try.func44, Try.ntmps44
    go_wp2
    all_goals first | (exfalso; omega) | skip
    go_ret
    exact ⟨by simp [cmpD, h1], rfl⟩
  · by_cases h2 : x < y
    · go_enter Try.func44, Try.ntmps44
      go_wp2
      all_goals first | (exfalso; omega) | skip
      go_ret
      exact ⟨by simp [cmpD, h1, h2], rfl⟩
    · go_enter Try.func44, Try.ntmps44
      go_wp2
      all_goals first | (exfalso; omega) | skip
      go_ret
      have e : cmpD x y = 0 := by rw [cmpD, if_neg (by omega), if_neg (by omega)]
      exact ⟨by rw [e]; rfl, rfl⟩

theorem lt_cmpD (x y : Int) : ltOf cmpD x y = decide (y < x) := by
  unfold ltOf cmpD
  by_cases h1 : y < x
  · simp [h1]
  · by_cases h2 : x < y <;> simp [h1, h2]

theorem S43_ok : SpecO Try.prog 43 (sortS 44 cmpD) := by
  refine sortS_ok Try.sortInt 44 cmpD (enters_of Try.func43 (by kernel_rfl) rfl) (enters_of Try.func44 (by kernel_rfl) rfl) cmp_calls ?_ ?_
  · refine ⟨fun x => ?_, fun x y z h1 h2 => ?_, fun x y z h1 h2 => ?_⟩
    · rw [lt_cmpD]; simp
    · rw [lt_cmpD] at *; simp at *; omega
    · rw [lt_cmpD] at *; simp at *; omega
  · intro x y h1 h2
    rw [lt_cmpD] at *; simp at *; omega

def S42 : List AV → List AObj → Option (AV × List AObj)
  | [.d (.int .i64 c)], [] => some (.fn (.func 52) [.ptr 0 0 0 0], [.var [.d (.int .i64 c)] 0])
  | _, _ => none

theorem S42_ok : SpecO Try.prog 42 S42 := by
  refine specO_of T_ok (tbl0_ok _) mixed Try.func42 (by kernel_rfl) rfl (by kernel_rfl) ?_
  intro args objs r objs' h
  unfold S42 at h
  split at h
  · rename_i c
    cases h
    refine ⟨by simp [Try.f42], ?_⟩
    conv => whnf
    exact ⟨rfl, rfl⟩
  · cases h

/-- The number that a node has. -/
def atM (ms : List Int) (x : Nat) : Int := ms.getD x 0
def matchI (c : Int) (ms : List Int) : Int :=
  if (upTo (msk c) 7) = [] then 0 else (sortBy cmpD ((upTo (msk c) 7).map (atM ms))).getD ((upTo (msk c) 7).length / 2) 0

def S18 : List AV → Option AV
  | [.d (.int .i64 c), .agg [.d (.int .i64 a0), .d (.int .i64 a1), .d (.int .i64 a2), .d (.int .i64 a3), .d (.int .i64 a4), .d (.int .i64 a5), .d (.int .i64 a6)]] => some (.d (.int .i64 (matchI c [a0, a1, a2, a3, a4, a5, a6])))
  | _ => none

def cellsM (a0 a1 a2 a3 a4 a5 a6 : Int) : List AV := [.d (.int .i64 a0), .d (.int .i64 a1), .d (.int .i64 a2), .d (.int .i64 a3), .d (.int .i64 a4), .d (.int .i64 a5), .d (.int .i64 a6)]
theorem cellsM_at (a0 a1 a2 a3 a4 a5 a6 : Int) {n : Nat} (h : n < 7) : (cellsM a0 a1 a2 a3 a4 a5 a6).getD n .undef = .d (.int .i64 (atM [a0, a1, a2, a3, a4, a5, a6] n)) := by
  have : n = 0 ∨ n = 1 ∨ n = 2 ∨ n = 3 ∨ n = 4 ∨ n = 5 ∨ n = 6 := by omega
  rcases this with rfl | rfl | rfl | rfl | rfl | rfl | rfl <;> rfl

def ob18 (c : Int) (cells : List AV) (ms : List Int) : List Nat → List AObj
  | [] => [.var cells 0, .var [.nils] 0, .var [.d (.int .i64 c)] 0]
  | x :: l => [.var cells 0, .var [.win 3 0 (l.length + 1) l.length] 0, .var [.d (.int .i64 c)] 0, .arr (rowsZ ((x :: l).map (atM ms))) 1 l.length]

theorem dInt_inj {l m : List Nat} (h : l.map dInt = m.map dInt) : l = m := by
  induction l generalizing m with
  | nil => cases m with
    | nil => rfl
    | cons y m => cases h
  | cons x l ih => cases m with
    | nil => cases h
    | cons y m =>
      simp only [List.map_cons, List.cons.injEq] at h
      have h1 : (x : Int) = y := by
        have := h.1
        unfold dInt at this
        injection this
      rw [ih h.2, show x = y by omega]

def tb18 : Tbl := tblIt 52 S52 (tblAddO 43 (sortS 44 cmpD) (tblAddO 42 S42 (tblS 3 7 tbl0)))
theorem tb18_ok : TblOk Try.prog tb18 := tblIt_ok S52_ok (tblAddO_ok S43_ok (tblAddO_ok S42_ok (tblS_ok (tbl0_ok _))))

set_option maxHeartbeats 4000000 in
theorem S18_ok : SpecOk Try.prog 18 S18 := by
  obtain ⟨f43, hf43⟩ : ∃ f, f = sortS 44 cmpD := ⟨_, rfl⟩
  have htb : TblOk Try.prog (tblIt 52 S52 (tblAddO 43 f43 (tblAddO 42 S42 (tblS 3 7 tbl0)))) := by subst hf43; exact tb18_ok
  refine spec_of T_ok htb mixed Try.func18 (by kernel_rfl) rfl (by kernel_rfl) ?_
  intro args r h
  unfold S18 at h
  split at h
  · rename_i c a0 a1 a2 a3 a4 a5 a6
    cases h
    refine ⟨by simp [Try.f18], rfl, rfl, ?_⟩
    conv => whnf
    refine ⟨fun pre ob => ∃ L : List Nat, (∀ x ∈ L, x < 7) ∧ pre = L.map dInt ∧ ob = ob18 c (cellsM a0 a1 a2 a3 a4 a5 a6) [a0, a1, a2, a3, a4, a5, a6] L, ⟨[], by simp, rfl, rfl⟩, ?_, ?_, ?_⟩
    · rintro pre ob ⟨L, _, _, rfl⟩
      cases L <;> rfl
    · rintro pre r ob ⟨L, hL, rfl, rfl⟩ ⟨n, hn, rfl⟩ hlen
      have hm : Side (tyAgg ty3 = false ∧ 0 + (n : Int).toNat * ty3.size < (cellsM a0 a1 a2 a3 a4 a5 a6).length ∧ (cellsM a0 a1 a2 a3 a4 a5 a6).getD (0 + (n : Int).toNat * ty3.size) .undef = .d (.int .i64 (atM [a0, a1, a2, a3, a4, a5, a6] n))) := by
        have e : 0 + (n : Int).toNat * ty3.size = n := by show 0 + (n : Int).toNat * 1 = n; omega
        rw [e]
        exact ⟨rfl, hn, cellsM_at _ _ _ _ _ _ _ hn⟩
      have hlen : L.length < 7 := by
        have : (L.map dInt).length < 7 := hlen
        simpa using this
      have hL' : ∀ x ∈ L ++ [n], x < 7 := fun x hx => (List.mem_append.1 hx).elim (hL x) fun h => by simp at h; omega
      cases L with
      | nil =>
        conv => whnf
        refine And.intro (⟨by omega, by omega⟩ : Side _) ?_
        conv => whnf
        refine ⟨_, And.intro hm ?_⟩
        repeat' (first | ((conv => whnf); intro _ _) | ((conv => whnf); refine And.intro ?_ ?_ <;> intro h <;> cases h) | ((conv => whnf); refine And.intro (?_ : Side _) ?_) | ((conv => whnf); refine Or.inl ?_) | fail)
        all_goals (conv => whnf)
        · exact ⟨by simp [ty3]⟩
        · exact ⟨[n], hL', rfl, rfl⟩
      | cons x l =>
        conv => whnf
        refine And.intro (⟨by omega, by omega⟩ : Side _) ?_
        conv => whnf
        refine ⟨_, And.intro hm ?_⟩
        repeat' (first | ((conv => whnf); intro _ _) | ((conv => whnf); refine And.intro ?_ ?_ <;> intro h <;> cases h) | ((conv => whnf); refine And.intro (?_ : Side _) ?_) | ((conv => whnf); refine Or.inl ?_) | fail)
        all_goals (conv => whnf)
        · exact ⟨by simp [rowsZ, ty3]; simp at hlen; omega⟩
        · refine ⟨x :: (l ++ [n]), hL', by simp, ?_⟩
          show [AObj.var (cellsM a0 a1 a2 a3 a4 a5 a6) 0, .var [.win 3 0 (l.length + 1 + 1) (l.length + 1)] 0, .var [.d (.int .i64 c)] 0, .arr (rowsZ ((x :: l).map (atM [a0, a1, a2, a3, a4, a5, a6])) ++ [[D.int .i64 (atM [a0, a1, a2, a3, a4, a5, a6] n)]]) 1 (l.length + 1)] = _
          simp [ob18, rowsZ]
    · rintro xs ob hS ⟨L, hL, rfl, rfl⟩
      have hS : L.map dInt = (upTo (msk c) 7).map dInt := hS
      have hLe := dInt_inj hS
      cases L with
      | nil =>
        repeat' (first | ((conv => whnf); intro _ _) | ((conv => whnf); refine And.intro ?_ ?_ <;> intro h <;> cases h) | ((conv => whnf); refine And.intro (?_ : Side _) ?_) | ((conv => whnf); refine Or.inl ?_) | fail)
        all_goals (conv => whnf)
        · simp [matchI, ← hLe]
        · rename_i h; cases h
      | cons x l =>
        repeat' (first | ((conv => whnf); intro _ _) | ((conv => whnf); refine And.intro ?_ ?_ <;> intro h <;> cases h) | ((conv => whnf); refine And.intro (?_ : Side _) ?_) | ((conv => whnf); refine Or.inl ?_) | fail)
        all_goals (conv => whnf)
        · rename_i h
          have := of_decide_eq_true h.symm
          simp at this
          omega
        · obtain ⟨M, hM⟩ : ∃ M, M = (x :: l).map (atM [a0, a1, a2, a3, a4, a5, a6]) := ⟨_, rfl⟩
          have hMl : M.length = l.length + 1 := by simp [hM]
          have hl7 : l.length + 1 ≤ 7 := by
            have := upTo_length (msk c) 7
            rw [← hLe] at this
            simpa using this
          have hq : IntKind.i64.wrap (((l.length + 1 : Nat) : Int).tdiv 2) = (((l.length + 1) / 2 : Nat) : Int) := by
            rw [show (((l.length + 1 : Nat) : Int).tdiv 2) = (((l.length + 1) / 2 : Nat) : Int) by rw [Int.tdiv_eq_ediv_of_nonneg (by omega)]; simp]
            exact wrapi_nat _ (by omega)
          have hrow : (rowsZ (sortBy cmpD M)).getD (0 + (((l.length + 1) / 2 : Nat) : Int).toNat) [] = [D.int .i64 ((sortBy cmpD M).getD ((l.length + 1) / 2) 0)] := by
            have hlt : (l.length + 1) / 2 < (sortBy cmpD M).length := by rw [sortBy_length, hMl]; omega
            have e : 0 + (((l.length + 1) / 2 : Nat) : Int).toNat = (l.length + 1) / 2 := by omega
            rw [e]
            simp [rowsZ, List.getD_eq_getElem?_getD, hlt]
          have hrl : 0 + (((l.length + 1) / 2 : Nat) : Int).toNat < (rowsZ (sortBy cmpD M)).length := by
            rw [rowsZ_length, sortBy_length, hMl]; omega
          have et : f43 [.win 0 0 (l.length + 1) l.length, .fn (.func 44) []] [.arr (rowsZ M) 1 l.length] = some (.tup [], [.arr (rowsZ (sortBy cmpD M)) 1 l.length]) := by
            rw [hf43]
            simp only [sortS]
            rw [if_pos ⟨⟨trivial, trivial, trivial⟩, ⟨trivial, trivial, by rw [rowsZ_length, hMl]⟩, by omega, by omega, rowsZ_all M⟩, rowsZ_int]
          subst hM
          generalize hX : Tbl.o _ _ _ _ = X
          cases (hX.symm.trans et : X = some _)
          repeat' (first | ((conv => whnf); intro _ _) | ((conv => whnf); refine And.intro ?_ ?_ <;> intro h <;> cases h) | ((conv => whnf); refine And.intro (?_ : Side _) ?_) | ((conv => whnf); refine Or.inl ?_) | fail)
          all_goals (conv => whnf)
          · rw [hq]
            exact ⟨⟨rfl, rfl⟩, by omega, by omega⟩
          · rw [hq]
            refine ⟨_, And.intro (⟨rfl, hrl, hrow⟩ : Side _) ?_⟩
            · repeat' (first | ((conv => whnf); intro _ _) | ((conv => whnf); refine And.intro ?_ ?_ <;> intro h <;> cases h) | ((conv => whnf); refine And.intro (?_ : Side _) ?_) | ((conv => whnf); refine Or.inl ?_) | fail)
              all_goals (conv => whnf)
              show AV.d (D.int .i64 _) = AV.d (D.int .i64 _)
              rw [matchI, ← hLe, if_neg (by simp)]
              rfl
  · cases h
end Go.Proofs.Ytnephacfnbcdeaa
