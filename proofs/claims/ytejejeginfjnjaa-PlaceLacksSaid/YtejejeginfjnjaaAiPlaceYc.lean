/- The pieces that a node lacks, on both sides: the contracts. -/
import Derived.Test.YtejejeginfjnjaaAiPlaceYb
import Derived.Test.YtejejeginfjnjaaAiPlaceU
namespace Go.Proofs.Ytejejeginfjnjaa
open Go Go.AI
set_option linter.unusedVariables false

def lacksI (me n : Int) (A B : List (List UInt8)) : List (List UInt8) := A.filter fun s => hasI s n me && !decide (s ∈ B)
def short (l : List (List UInt8)) : Bool := l.all fun s => decide (s.length < 549755813888)
theorem short_get {l : List (List UInt8)} (h : short l = true) (i : Nat) : (l.getD i []).length < 549755813888 := by
  by_cases hi : i < l.length
  · simp only [short, List.all_eq_true, decide_eq_true_eq] at h
    exact h _ (getD_mem [] hi)
  · simp [List.getD_eq_getElem?_getD, List.getElem?_eq_none (show l.length ≤ i by omega)]

def S18 : List AV → Option AV
  | [.d (.int .i64 me), .d (.int .i64 n), .d (.sl a), .d (.sl b)] =>
    if (a.all isS = true ∧ b.all isS = true) ∧ short (a.map sOf) = true ∧ a.length < 1000 ∧ b.length < 1000 then some (.d (.sl (strsD (lacksI me n (a.map sOf) (b.map sOf))))) else none
  | _ => none

theorem body18 : Try.f18.body = some (.seq (match a18 with | .seq a _ => a | _ => .skip) (.seq (match a18 with | .seq _ b => b | _ => .skip) (.seq b18 (.seq c18 (.seq d18 e18))))) := rfl

theorem frz_out (ob : List AObj) (F : List (List UInt8)) (id : Nat) (h : ∀ x t, F = x :: t → ob[id]? = some (.arr (strsD (x :: t)) 1 (t.length + 1))) : frz ob (outV F id) = .d (.sl (strsD F)) := by
  cases F with
  | nil => rfl
  | cons x t =>
    refine (frz_win (off := 0) (n := 1) (h x t rfl) Nat.one_pos).trans ?_
    rw [List.drop_zero]
    exact congrArg (fun z => AV.d (D.sl z)) (List.take_of_length_le (by rw [strsD_length]; exact Nat.le_refl _))

theorem S18_ok : SpecOk Try.prog 18 S18 := by
  obtain ⟨f12, hf12⟩ : ∃ f, f = S12 := ⟨_, rfl⟩
  have htb : TblOk Try.prog (tblAdd 12 f12 tbl0) := by
    subst hf12
    exact tblAdd_ok S12_ok (tbl0_ok _)
  intro args r h
  unfold S18 at h
  split at h
  · rename_i me n ra rb
    split at h
    · rename_i hc
      obtain ⟨⟨h1, h2⟩, h3, h4, h5⟩ := hc
      have h1 := strsD_of h1
      have h2 := strsD_of h2
      generalize ra.map sOf = A at h1 h h3
      generalize rb.map sOf = B at h2 h
      subst h1 h2
      cases h
      rw [strsD_length] at h4 h5
      have e12 : ∀ i, f12 [.d (.str (A.getD i [])), .d (.int .i64 n), .d (.int .i64 me)] = some (.d (.bool (hasI (A.getD i []) n me))) := by
        intro i
        rw [hf12]
        simp only [S12]
        rw [if_pos (short_get h3 i)]
      clear hf12
      refine ⟨enters' Try.func18 (by kernel_rfl) rfl, fun i hi => ?_, fnF_of' T_ok Try.func18 body18 (Nat.le_of_ble_eq_true rfl) rfl ?_⟩
      · match i, hi with
        | 0, _ => rfl
        | 1, _ => rfl
        | 2, _ => rfl
        | 3, _ => rfl
      refine RW.seq (fun σ => (σ.get 0 = .d (.int .i64 me) ∧ σ.get 1 = .d (.int .i64 n) ∧ σ.get 2 = .d (.sl (strsD A)) ∧ σ.get 3 = .d (.sl (strsD B))) ∧ σ.objs = []) (RW.of T_ok htb mixed (by kernel_rfl) (by (conv => whnf); exact ⟨⟨rfl, rfl, rfl, rfl⟩, rfl⟩)) fun σ0 h0 => ?_
      obtain ⟨tm, ob⟩ := σ0
      obtain ⟨⟨g0, g1, g2, g3⟩, ho⟩ := h0
      have ho : ob = [] := ho
      subst ho
      refine RW.weak (Weak.at [(0, .d (.int .i64 me)), (1, .d (.int .i64 n)), (2, .d (.sl (strsD A))), (3, .d (.sl (strsD B)))] fun p hp => by
        simp only [List.mem_cons, List.not_mem_nil, or_false] at hp
        rcases hp with rfl | rfl | rfl | rfl <;> assumption) ?_
      refine RW.seq (fun σ => (σ.get 0 = .d (.int .i64 me) ∧ σ.get 1 = .d (.int .i64 n) ∧ σ.get 2 = .d (.sl (strsD A)) ∧ σ.get 3 = .d (.sl (strsD B)) ∧ σ.get 9 = .mp 0 1) ∧ σ.objs = [.map [] 1]) (RW.of T_ok htb mixed (by kernel_rfl) (by (conv => whnf); exact ⟨⟨rfl, rfl, rfl, rfl, rfl⟩, rfl⟩)) fun σ1 h1 => ?_
      obtain ⟨tm1, ob1⟩ := σ1
      obtain ⟨⟨g0, g1, g2, g3, g9⟩, ho⟩ := h1
      have ho : ob1 = _ := ho
      subst ho
      refine RW.weak (Weak.at [(0, .d (.int .i64 me)), (1, .d (.int .i64 n)), (2, .d (.sl (strsD A))), (3, .d (.sl (strsD B))), (9, .mp 0 1)] fun p hp => by
        simp only [List.mem_cons, List.not_mem_nil, or_false] at hp
        rcases hp with rfl | rfl | rfl | rfl | rfl <;> assumption) ?_
      refine RW.seq (fun σ => (σ.get 0 = .d (.int .i64 me) ∧ σ.get 1 = .d (.int .i64 n) ∧ σ.get 2 = .d (.sl (strsD A)) ∧ σ.get 9 = .mp 0 1) ∧ σ.objs = [.map (mkM B B.length) 1]) (RW.of T_ok htb mixed (by kernel_rfl) (walkB18 f12 me n A B h5 _ fun σ h => h)) fun σ2 h2 => ?_
      have hM := fun s => find_mk B s B.length (Nat.le_refl _)
      rw [List.take_length] at hM
      generalize mkM B B.length = M at h2 hM
      obtain ⟨tm2, ob2⟩ := σ2
      obtain ⟨⟨g0, g1, g2, g9⟩, ho⟩ := h2
      have ho : ob2 = _ := ho
      subst ho
      refine RW.weak (Weak.at [(0, .d (.int .i64 me)), (1, .d (.int .i64 n)), (2, .d (.sl (strsD A))), (9, .mp 0 1)] fun p hp => by
        simp only [List.mem_cons, List.not_mem_nil, or_false] at hp
        rcases hp with rfl | rfl | rfl | rfl <;> assumption) ?_
      refine RW.seq (fun σ => (σ.get 0 = .d (.int .i64 me) ∧ σ.get 1 = .d (.int .i64 n) ∧ σ.get 2 = .d (.sl (strsD A)) ∧ σ.get 9 = .mp 0 1 ∧ σ.get 12 = .nils) ∧ σ.objs = [.map M 1]) (RW.of T_ok htb mixed (by kernel_rfl) (by (conv => whnf); exact ⟨⟨rfl, rfl, rfl, rfl, rfl⟩, rfl⟩)) fun σ3 h3' => ?_
      obtain ⟨tm3, ob3⟩ := σ3
      obtain ⟨⟨g0, g1, g2, g9, g12⟩, ho⟩ := h3'
      have ho : ob3 = _ := ho
      subst ho
      refine RW.weak (Weak.at [(0, .d (.int .i64 me)), (1, .d (.int .i64 n)), (2, .d (.sl (strsD A))), (9, .mp 0 1), (12, .nils)] fun p hp => by
        simp only [List.mem_cons, List.not_mem_nil, or_false] at hp
        rcases hp with rfl | rfl | rfl | rfl | rfl <;> assumption) ?_
      refine RW.seq (fun σ => σ.get 12 = outV (lacksI me n A B) 1 ∧ σ.objs = .map M 1 :: outO (lacksI me n A B)) (RW.of T_ok htb mixed (by kernel_rfl) (walkD18 f12 me n A M (fun s => hasI s n me) B h4 e12 hM _ fun σ h => h)) fun σ4 h4' => ?_
      generalize lacksI me n A B = F at h4' ⊢
      obtain ⟨tm4, ob4⟩ := σ4
      obtain ⟨g12, ho⟩ := h4'
      have ho : ob4 = _ := ho
      subst ho
      refine RW.weak (Weak.at [(12, outV F 1)] fun p hp => by rw [List.mem_singleton] at hp; subst hp; exact g12) ?_
      have hz := frz_out (.map M 1 :: outO F) F 1 (by rintro x t rfl; rfl)
      cases F with
      | nil => exact RW.of T_ok htb mixed (by kernel_rfl) (by (conv => whnf); exact hz)
      | cons x t => exact RW.of T_ok htb mixed (by kernel_rfl) (by (conv => whnf); exact hz)
    · cases h
  · cases h

/-! ### The document's -/

def S19 : List AV → Option AV
  | [.d (.int .i64 me), .d (.int .i64 n), .d (.sl a), .d (.sl b)] =>
    if (a.all isS = true ∧ b.all isS = true) ∧ short (a.map sOf) = true ∧ a.length < 1000 ∧ b.length < 1000 then some (.d (.sl (strsD (lacksI me n (a.map sOf) (b.map sOf))))) else none
  | _ => none

def st19 (me n : Int) (A B : List (List UInt8)) (F : List (List UInt8)) (i : Nat) : AS :=
  ⟨[(0, .d (.int .i64 me)), (1, .d (.int .i64 n)), (2, .d (.sl (strsD A))), (3, .d (.sl (strsD B))), (9, outV F 0), (10, .d (.int .i64 i))], outO F⟩

theorem S19_ok : SpecOk Try.prog 19 S19 := by
  obtain ⟨f13, hf13⟩ : ∃ f, f = S13 := ⟨_, rfl⟩
  obtain ⟨f29, hf29⟩ : ∃ f, f = S29 := ⟨_, rfl⟩
  have htb : TblOk Try.prog (tblAdd 13 f13 (tblAdd 29 f29 tbl0)) := by
    subst hf13 hf29
    exact tblAdd_ok S13_ok (tblAdd_ok S29_ok (tbl0_ok _))
  refine specF_of T_ok htb mixed Try.func19 (by kernel_rfl) rfl (by kernel_rfl) ?_
  intro args r h
  unfold S19 at h
  split at h
  · rename_i me n ra rb
    split at h
    · rename_i hc
      obtain ⟨⟨h1, h2⟩, h3, h4, h5⟩ := hc
      have h1 := strsD_of h1
      have h2 := strsD_of h2
      generalize ra.map sOf = A at h1 h h3
      generalize rb.map sOf = B at h2 h
      subst h1 h2
      cases h
      rw [strsD_length] at h4 h5
      have e13 : ∀ i, f13 [.d (.str (A.getD i [])), .d (.int .i64 n), .d (.int .i64 me)] = some (.d (.bool (hasI (A.getD i []) n me))) := by
        intro i
        rw [hf13]
        simp only [S13]
        rw [if_pos (short_get h3 i), has_eq]
      have e29 : ∀ i, f29 [.d (.sl (strsD B)), .d (.str (A.getD i []))] = some (.d (.bool (decide (A.getD i [] ∈ B)))) := by
        intro i
        rw [hf29]
        simp only [S29]
        rw [if_pos ⟨strsD_all _, by rw [strsD_length]; omega⟩, strsD_sOf]
      clear hf13 hf29
      refine ⟨by simp [Try.f19], rfl, rfl, ?_⟩
      unfold lacksI
      conv => whnf
      refine ⟨fun k σ => ∃ i, i ≤ A.length ∧ k = A.length - i ∧ σ = st19 me n A B (filtS (fun s => hasI s n me && !decide (s ∈ B)) A i) i, A.length,
        ⟨st19 me n A B (filtS (fun s => hasI s n me && !decide (s ∈ B)) A 0) 0, atL _ ⟨rfl, rfl, rfl, rfl, rfl, rfl, trivial⟩, 0, by omega, rfl, rfl⟩, ?_⟩
      rintro k σ ⟨i, hi, rfl, rfl⟩
      have hfs := fun h => filtS_succ (fun s => hasI s n me && !decide (s ∈ B)) A (i := i) h
      have hfl := filtS_le (fun s => hasI s n me && !decide (s ∈ B)) A i
      generalize hf : filtS (fun s => hasI s n me && !decide (s ∈ B)) A i = F at hfs hfl
      have stay : i < A.length → (hasI (A.getD i []) n me && !decide (A.getD i [] ∈ B)) = false → ∀ σ : AS, allAt σ [(0, .d (.int .i64 me)), (1, .d (.int .i64 n)), (2, .d (.sl (strsD A))), (3, .d (.sl (strsD B))), (9, outV F 0), (10, .d (.int .i64 (IntKind.i64.wrap ((i : Int) + 1))))] ∧ σ.objs = outO F →
          ∃ m τ, m < A.length - i ∧ WeakN 0 σ τ ∧ ∃ j, j ≤ A.length ∧ m = A.length - j ∧ τ = st19 me n A B (filtS (fun s => hasI s n me && !decide (s ∈ B)) A j) j := by
        intro ha hp σ ⟨h0, ho⟩
        refine ⟨A.length - (i + 1), st19 me n A B (filtS (fun s => hasI s n me && !decide (s ∈ B)) A (i + 1)) (i + 1), by omega, ?_, i + 1, by omega, rfl, rfl⟩
        rw [hfs ha, hp, if_neg (by decide), List.append_nil]
        obtain ⟨tm, ob⟩ := σ
        have ho : ob = _ := ho
        subst ho
        rw [wi (m := i + 1) (by omega) (by omega)] at h0
        exact atL _ h0
      have more : i < A.length → (hasI (A.getD i []) n me && !decide (A.getD i [] ∈ B)) = true → ∀ σ : AS, allAt σ [(0, .d (.int .i64 me)), (1, .d (.int .i64 n)), (2, .d (.sl (strsD A))), (3, .d (.sl (strsD B))), (9, .win 0 0 (F.length + 1) (F.length + 1)), (10, .d (.int .i64 (IntKind.i64.wrap ((i : Int) + 1))))] ∧ σ.objs = [.arr (strsD F ++ [[.str (A.getD i [])]]) 1 (F.length + 1)] →
          ∃ m τ, m < A.length - i ∧ WeakN 0 σ τ ∧ ∃ j, j ≤ A.length ∧ m = A.length - j ∧ τ = st19 me n A B (filtS (fun s => hasI s n me && !decide (s ∈ B)) A j) j := by
        intro ha hp σ ⟨h0, ho⟩
        refine ⟨A.length - (i + 1), st19 me n A B (filtS (fun s => hasI s n me && !decide (s ∈ B)) A (i + 1)) (i + 1), by omega, ?_, i + 1, by omega, rfl, rfl⟩
        rw [hfs ha, hp, if_pos rfl]
        obtain ⟨tm, ob⟩ := σ
        have ho : ob = _ := ho
        subst ho
        rw [wi (m := i + 1) (by omega) (by omega)] at h0
        have e1 : outV (F ++ [A.getD i []]) 0 = .win 0 0 (F.length + 1) (F.length + 1) := by cases F <;> simp [outV]
        have e2 : outO (F ++ [A.getD i []]) = [.arr (strsD F ++ [[.str (A.getD i [])]]) 1 (F.length + 1)] := by cases F <;> simp [outO, strsD]
        unfold st19
        rw [e1, e2]
        exact atL _ h0
      have last : ¬ (i : Int) < (A.length : Int) → F = A.filter fun s => hasI s n me && !decide (s ∈ B) := by
        intro ha
        have : i = A.length := by omega
        subst this
        unfold filtS at hf
        rw [List.take_length] at hf
        exact hf.symm
      cases F with
      | nil =>
        repeat' (first | ((conv => whnf); intro _ _) | ((conv => whnf); refine And.intro ?_ ?_ <;> intro h <;> cases h) | ((conv => whnf); generalize hX : Tbl.c _ _ _ = X; cases (hX.symm.trans (e13 i) : X = some _); clear hX) | ((conv => whnf); generalize hX : Tbl.c _ _ _ = X; cases (hX.symm.trans (e29 i) : X = some _); clear hX) | ((conv => whnf); refine ldS rfl ?_ ?_) | ((conv => whnf); refine And.intro (?_ : Side _) ?_) | ((conv => whnf); refine Or.inl ?_) | fail)
        all_goals (conv => whnf)
        · rename_i ha
          have ha := of_decide_eq_true ha.symm
          rw [strsD_length] at ha
          exact ⟨Int.natCast_nonneg _, ha⟩
        · rename_i ha hb
          have ha := of_decide_eq_true ha.symm
          rw [strsD_length] at ha
          exact ⟨Int.natCast_nonneg _, ha⟩
        · rename_i ha hb c hc hh
          have ha := of_decide_eq_true ha.symm
          rw [strsD_length] at ha
          exact ⟨Int.natCast_nonneg _, ha⟩
        · exact ap9N rfl
        · rename_i ha hb c hc hh
          have ha := of_decide_eq_true ha.symm
          rw [strsD_length] at ha
          exact more (by omega) (by rw [← hb, ← hc, ← hh]; rfl) _ ⟨⟨rfl, rfl, rfl, rfl, rfl, rfl, trivial⟩, rfl⟩
        · rename_i ha hb c hc hh
          have ha := of_decide_eq_true ha.symm
          rw [strsD_length] at ha
          exact stay (by omega) (by rw [← hb, ← hc, ← hh]; rfl) _ ⟨⟨rfl, rfl, rfl, rfl, rfl, rfl, trivial⟩, rfl⟩
        · rename_i ha hb
          have ha := of_decide_eq_true ha.symm
          rw [strsD_length] at ha
          exact stay (by omega) (by rw [← hb]; rfl) _ ⟨⟨rfl, rfl, rfl, rfl, rfl, rfl, trivial⟩, rfl⟩
        · rename_i ha
          have ha := of_decide_eq_false ha.symm
          rw [strsD_length] at ha
          rw [← last ha]
          exact frz_out _ [] 0 (fun y u h => by cases h)
      | cons x t =>
        repeat' (first | ((conv => whnf); intro _ _) | ((conv => whnf); refine And.intro ?_ ?_ <;> intro h <;> cases h) | ((conv => whnf); generalize hX : Tbl.c _ _ _ = X; cases (hX.symm.trans (e13 i) : X = some _); clear hX) | ((conv => whnf); generalize hX : Tbl.c _ _ _ = X; cases (hX.symm.trans (e29 i) : X = some _); clear hX) | ((conv => whnf); refine ldS rfl ?_ ?_) | ((conv => whnf); refine And.intro (?_ : Side _) ?_) | ((conv => whnf); refine Or.inl ?_) | fail)
        all_goals (conv => whnf)
        · rename_i ha
          have ha := of_decide_eq_true ha.symm
          rw [strsD_length] at ha
          exact ⟨Int.natCast_nonneg _, ha⟩
        · rename_i ha hb
          have ha := of_decide_eq_true ha.symm
          rw [strsD_length] at ha
          exact ⟨Int.natCast_nonneg _, ha⟩
        · rename_i ha hb c hc hh
          have ha := of_decide_eq_true ha.symm
          rw [strsD_length] at ha
          exact ⟨Int.natCast_nonneg _, ha⟩
        · rw [List.length_cons] at hfl
          exact ap9W (M := 1) (by rw [strsD_length, List.length_cons]; omega) rfl (Nat.le_refl _) (Nat.succ_ne_zero _) (by omega)
        · rename_i ha hb c hc hh
          have ha := of_decide_eq_true ha.symm
          rw [strsD_length] at ha
          exact more (by omega) (by rw [← hb, ← hc, ← hh]; rfl) _ ⟨⟨rfl, rfl, rfl, rfl, rfl, rfl, trivial⟩, rfl⟩
        · rename_i ha hb c hc hh
          have ha := of_decide_eq_true ha.symm
          rw [strsD_length] at ha
          exact stay (by omega) (by rw [← hb, ← hc, ← hh]; rfl) _ ⟨⟨rfl, rfl, rfl, rfl, rfl, rfl, trivial⟩, rfl⟩
        · rename_i ha hb
          have ha := of_decide_eq_true ha.symm
          rw [strsD_length] at ha
          exact stay (by omega) (by rw [← hb]; rfl) _ ⟨⟨rfl, rfl, rfl, rfl, rfl, rfl, trivial⟩, rfl⟩
        · rename_i ha
          have ha := of_decide_eq_false ha.symm
          rw [strsD_length] at ha
          rw [← last ha]
          exact frz_out _ (x :: t) 0 (fun y u h => by cases h; rfl)
    · cases h
  · cases h

end Go.Proofs.Ytejejeginfjnjaa
