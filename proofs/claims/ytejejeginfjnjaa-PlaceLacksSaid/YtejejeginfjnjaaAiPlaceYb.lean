/- The pieces that a node lacks, as the program finds them, and as the document does: the walks. -/
import Derived.Test.YtejejeginfjnjaaAiPlaceYa
namespace Go.Proofs.Ytejejeginfjnjaa
open Go Go.AI
set_option linter.unusedVariables false

/-- A set of texts, as a map. -/
def mkM (B : List (List UInt8)) : Nat → List (List UInt8 × AV)
  | 0 => []
  | i + 1 => mapPut (mkM B i) (B.getD i []) (.d (.bool true))

theorem find_put (l : List (List UInt8 × AV)) (k k' : List UInt8) (v : AV) : mapFind (mapPut l k v) k' = if k = k' then some v else mapFind l k' := by
  induction l with
  | nil => simp [mapPut, mapFind]
  | cons x l ih =>
    simp only [mapPut]
    by_cases h : x.1 = k
    · rw [if_pos h]
      simp only [mapFind]
      by_cases h2 : k = k'
      · simp [h2]
      · simp only [if_neg h2]
        rw [if_neg (fun h3 => h2 (h.symm.trans h3))]
    · rw [if_neg h]
      simp only [mapFind]
      rw [ih]
      by_cases h2 : k = k'
      · subst h2
        simp [h]
      · simp only [if_neg h2]

theorem find_mk (B : List (List UInt8)) (s : List UInt8) : ∀ (i : Nat), i ≤ B.length → (s ∈ B.take i ∧ mapFind (mkM B i) s = some (.d (.bool true))) ∨ (s ∉ B.take i ∧ mapFind (mkM B i) s = none)
  | 0, _ => .inr ⟨by simp, rfl⟩
  | i + 1, h => by
    have ih := find_mk B s i (by omega)
    rw [take_succ' [] (show i < B.length by omega)]
    simp only [mkM, find_put, List.mem_append, List.mem_singleton]
    by_cases e : B.getD i [] = s
    · rw [if_pos e]
      exact .inl ⟨.inr e.symm, rfl⟩
    · rw [if_neg e]
      rcases ih with ⟨h1, h2⟩ | ⟨h1, h2⟩
      · exact .inl ⟨.inl h1, h2⟩
      · exact .inr ⟨fun h => h.elim h1 (fun h => e h.symm), h2⟩

noncomputable def a18 : Code := match Try.f18.body with | some (.seq a (.seq b _)) => .seq a b | _ => .skip
noncomputable def b18 : Code := match Try.f18.body with | some (.seq _ (.seq _ (.seq a _))) => a | _ => .skip
noncomputable def c18 : Code := match Try.f18.body with | some (.seq _ (.seq _ (.seq _ (.seq a _)))) => a | _ => .skip
noncomputable def d18 : Code := match Try.f18.body with | some (.seq _ (.seq _ (.seq _ (.seq _ (.seq a _))))) => a | _ => .skip
noncomputable def e18 : Code := match Try.f18.body with | some (.seq _ (.seq _ (.seq _ (.seq _ (.seq _ a))))) => a | _ => .skip

def st18a (me n : Int) (A B : List (List UInt8)) (i : Nat) : AS :=
  ⟨[(0, .d (.int .i64 me)), (1, .d (.int .i64 n)), (2, .d (.sl (strsD A))), (9, .mp 0 1), (16, .d (.sl (strsD B))), (17, .d (.int .i64 B.length)), (18, .d (.int .i64 i))], [.map (mkM B i) 1]⟩

theorem walkB18 (f12 : List AV → Option AV) (me n : Int) (A B : List (List UInt8)) (hB : B.length < 1000) (Q : Exit → AS → Prop)
    (hQ : ∀ σ : AS, (σ.get 0 = .d (.int .i64 me) ∧ σ.get 1 = .d (.int .i64 n) ∧ σ.get 2 = .d (.sl (strsD A)) ∧ σ.get 9 = .mp 0 1) ∧ σ.objs = [.map (mkM B B.length) 1] → Q .normal σ) :
    rwp T (tblAdd 12 f12 tbl0) (strip (tblAdd 12 f12 tbl0) b18) Q ⟨[(0, .d (.int .i64 me)), (1, .d (.int .i64 n)), (2, .d (.sl (strsD A))), (3, .d (.sl (strsD B))), (9, .mp 0 1)], [.map [] 1]⟩ := by
  conv => whnf
  refine ⟨fun k σ => ∃ i, i ≤ B.length ∧ k = B.length - i ∧ σ = st18a me n A B i, B.length, ⟨st18a me n A B 0, atL _ ⟨rfl, rfl, rfl, rfl, rfl, congrArg (fun z => AV.d (D.int .i64 z)) (by rw [strsD_length]), rfl, trivial⟩, 0, by omega, rfl, rfl⟩, ?_⟩
  rintro k σ ⟨i, hi, rfl, rfl⟩
  repeat' (first | ((conv => whnf); intro _ _) | ((conv => whnf); refine And.intro ?_ ?_ <;> intro h <;> cases h) | ((conv => whnf); refine ldS rfl ?_ ?_) | ((conv => whnf); refine And.intro (?_ : Side _) ?_) | fail)
  all_goals (conv => whnf)
  · rename_i ha
    have ha := of_decide_eq_true ha.symm
    exact ⟨Int.natCast_nonneg _, ha⟩
  · rename_i ha
    have ha := of_decide_eq_true ha.symm
    exact ⟨B.length - (i + 1), st18a me n A B (i + 1), by omega, atL _ ⟨rfl, rfl, rfl, rfl, rfl, rfl, congrArg (fun z => AV.d (D.int .i64 z)) (wi (m := i + 1) (by omega) (by omega)), trivial⟩, i + 1, by omega, rfl, rfl⟩
  · rename_i ha
    have ha := of_decide_eq_false ha.symm
    have : i = B.length := by omega
    subst this
    exact hQ _ ⟨⟨rfl, rfl, rfl, rfl⟩, rfl⟩

/-! ### The second loop -/

def filtS (p : List UInt8 → Bool) (l : List (List UInt8)) (i : Nat) : List (List UInt8) := (l.take i).filter p
theorem filtS_succ (p : List UInt8 → Bool) (l : List (List UInt8)) {i : Nat} (h : i < l.length) : filtS p l (i + 1) = filtS p l i ++ (if p (l.getD i []) = true then [l.getD i []] else []) := by
  unfold filtS
  rw [take_succ' [] h, List.filter_append]
  congr 1
  rw [List.filter_cons, List.filter_nil]
theorem filtS_le (p : List UInt8 → Bool) (l : List (List UInt8)) (i : Nat) : (filtS p l i).length ≤ l.length :=
  Nat.le_trans (List.length_filter_le _ _) (by rw [List.length_take]; omega)

def outV (F : List (List UInt8)) (id : Nat) : AV := match F with | [] => .nils | _ :: t => .win id 0 (t.length + 1) (t.length + 1)
def outO (F : List (List UInt8)) : List AObj := match F with | [] => [] | x :: t => [.arr (strsD (x :: t)) 1 (t.length + 1)]

def st18b (me n : Int) (A : List (List UInt8)) (M : List (List UInt8 × AV)) (F : List (List UInt8)) (i : Nat) : AS :=
  ⟨[(0, .d (.int .i64 me)), (1, .d (.int .i64 n)), (9, .mp 0 1), (12, outV F 1), (25, .d (.sl (strsD A))), (26, .d (.int .i64 A.length)), (27, .d (.int .i64 i))], .map M 1 :: outO F⟩

theorem walkD18 (f12 : List AV → Option AV) (me n : Int) (A : List (List UInt8)) (M : List (List UInt8 × AV)) (hs : List UInt8 → Bool) (B : List (List UInt8)) (hA : A.length < 1000)
    (e12 : ∀ i, f12 [.d (.str (A.getD i [])), .d (.int .i64 n), .d (.int .i64 me)] = some (.d (.bool (hs (A.getD i [])))))
    (hM : ∀ s, (s ∈ B ∧ mapFind M s = some (.d (.bool true))) ∨ (s ∉ B ∧ mapFind M s = none)) (Q : Exit → AS → Prop)
    (hQ : ∀ σ : AS, σ.get 12 = outV (A.filter fun s => hs s && !decide (s ∈ B)) 1 ∧ σ.objs = .map M 1 :: outO (A.filter fun s => hs s && !decide (s ∈ B)) → Q .normal σ) :
    rwp T (tblAdd 12 f12 tbl0) (strip (tblAdd 12 f12 tbl0) d18) Q ⟨[(0, .d (.int .i64 me)), (1, .d (.int .i64 n)), (2, .d (.sl (strsD A))), (9, .mp 0 1), (12, .nils)], [.map M 1]⟩ := by
  conv => whnf
  refine ⟨fun k σ => ∃ i, i ≤ A.length ∧ k = A.length - i ∧ σ = st18b me n A M (filtS (fun s => hs s && !decide (s ∈ B)) A i) i, A.length,
    ⟨st18b me n A M (filtS (fun s => hs s && !decide (s ∈ B)) A 0) 0, atL _ ⟨rfl, rfl, rfl, rfl, rfl, congrArg (fun z => AV.d (D.int .i64 z)) (by rw [strsD_length]), rfl, trivial⟩, 0, by omega, rfl, rfl⟩, ?_⟩
  rintro k σ ⟨i, hi, rfl, rfl⟩
  have hfs := fun h => filtS_succ (fun s => hs s && !decide (s ∈ B)) A (i := i) h
  have hfl := filtS_le (fun s => hs s && !decide (s ∈ B)) A i
  generalize hf : filtS (fun s => hs s && !decide (s ∈ B)) A i = F at hfs hfl
  have ei : A.getD ((i : Nat) : Int).toNat [] = A.getD i [] := rfl
  have stay : i < A.length → (hs (A.getD i []) && !decide (A.getD i [] ∈ B)) = false → ∀ σ : AS, allAt σ [(0, .d (.int .i64 me)), (1, .d (.int .i64 n)), (9, .mp 0 1), (12, outV F 1), (25, .d (.sl (strsD A))), (26, .d (.int .i64 A.length)), (27, .d (.int .i64 (IntKind.i64.wrap ((i : Int) + 1))))] ∧ σ.objs = .map M 1 :: outO F →
      ∃ m τ, m < A.length - i ∧ WeakN 1 σ τ ∧ ∃ j, j ≤ A.length ∧ m = A.length - j ∧ τ = st18b me n A M (filtS (fun s => hs s && !decide (s ∈ B)) A j) j := by
    intro ha hp σ ⟨h0, ho⟩
    refine ⟨A.length - (i + 1), st18b me n A M (filtS (fun s => hs s && !decide (s ∈ B)) A (i + 1)) (i + 1), by omega, ?_, i + 1, by omega, rfl, rfl⟩
    rw [hfs ha, hp, if_neg (by decide), List.append_nil]
    obtain ⟨tm, ob⟩ := σ
    have ho : ob = _ := ho
    subst ho
    rw [wi (m := i + 1) (by omega) (by omega)] at h0
    exact atL _ h0
  have more : i < A.length → (hs (A.getD i []) && !decide (A.getD i [] ∈ B)) = true → ∀ σ : AS, allAt σ [(0, .d (.int .i64 me)), (1, .d (.int .i64 n)), (9, .mp 0 1), (12, .win 1 0 (F.length + 1) (F.length + 1)), (25, .d (.sl (strsD A))), (26, .d (.int .i64 A.length)), (27, .d (.int .i64 (IntKind.i64.wrap ((i : Int) + 1))))] ∧ σ.objs = [.map M 1, .arr (strsD F ++ [[.str (A.getD i [])]]) 1 (F.length + 1)] →
      ∃ m τ, m < A.length - i ∧ WeakN 1 σ τ ∧ ∃ j, j ≤ A.length ∧ m = A.length - j ∧ τ = st18b me n A M (filtS (fun s => hs s && !decide (s ∈ B)) A j) j := by
    intro ha hp σ ⟨h0, ho⟩
    refine ⟨A.length - (i + 1), st18b me n A M (filtS (fun s => hs s && !decide (s ∈ B)) A (i + 1)) (i + 1), by omega, ?_, i + 1, by omega, rfl, rfl⟩
    rw [hfs ha, hp, if_pos rfl]
    obtain ⟨tm, ob⟩ := σ
    have ho : ob = _ := ho
    subst ho
    rw [wi (m := i + 1) (by omega) (by omega)] at h0
    have e1 : outV (F ++ [A.getD i []]) 1 = .win 1 0 (F.length + 1) (F.length + 1) := by cases F <;> simp [outV]
    have e2 : outO (F ++ [A.getD i []]) = [.arr (strsD F ++ [[.str (A.getD i [])]]) 1 (F.length + 1)] := by cases F <;> simp [outO, strsD]
    unfold st18b
    rw [e1, e2]
    exact atL _ h0
  have last : ¬ (i : Int) < (A.length : Int) → ∀ σ : AS, σ.get 12 = outV F 1 ∧ σ.objs = .map M 1 :: outO F → Q .normal σ := by
    intro ha σ h
    have : i = A.length := by omega
    subst this
    unfold filtS at hf
    rw [List.take_length] at hf
    exact hQ _ (by rw [hf]; exact h)
  rcases hM (A.getD ((i : Nat) : Int).toNat []) with ⟨hin, eM⟩ | ⟨hin, eM⟩
  · -- it is there
    have hp : (hs (A.getD i []) && !decide (A.getD i [] ∈ B)) = false := by rw [decide_eq_true (show A.getD i [] ∈ B from hin)]; simp
    repeat' (first | ((conv => whnf); intro _ _) | ((conv => whnf); refine And.intro ?_ ?_ <;> intro h <;> cases h) | ((conv => whnf); rw [eM]) | ((conv => whnf); refine ldS rfl ?_ ?_) | ((conv => whnf); refine And.intro (?_ : Side _) ?_) | fail)
    all_goals (conv => whnf)
    · rename_i ha
      exact ⟨Int.natCast_nonneg _, of_decide_eq_true ha.symm⟩
    · rename_i ha c hc hb
      exact absurd (hb.trans (congrArg not hc)) (by decide)
    · rename_i ha c hc hb
      have ha := of_decide_eq_true ha.symm
      exact stay (by omega) hp _ ⟨⟨rfl, rfl, rfl, rfl, rfl, rfl, rfl, trivial⟩, rfl⟩
    · rename_i ha
      exact last (of_decide_eq_false ha.symm) _ ⟨rfl, rfl⟩
  · have hd : decide (A.getD i [] ∈ B) = false := decide_eq_false hin
    rw [hd] at stay more
    cases F with
    | nil =>
      repeat' (first | ((conv => whnf); intro _ _) | ((conv => whnf); refine And.intro ?_ ?_ <;> intro h <;> cases h) | ((conv => whnf); rw [eM]) | ((conv => whnf); generalize hX : Tbl.c _ _ _ = X; cases (hX.symm.trans (e12 i) : X = some _); clear hX) | ((conv => whnf); refine ldS rfl ?_ ?_) | ((conv => whnf); refine And.intro (?_ : Side _) ?_) | ((conv => whnf); refine Or.inl ?_) | fail)
      all_goals (conv => whnf)
      · rename_i ha
        exact ⟨Int.natCast_nonneg _, of_decide_eq_true ha.symm⟩
      · exact ap9N rfl
      · rename_i ha c hc hb hh
        have ha := of_decide_eq_true ha.symm
        exact more (by omega) (by rw [← hh]; rfl) _ ⟨⟨rfl, rfl, rfl, rfl, rfl, rfl, rfl, trivial⟩, rfl⟩
      · rename_i ha c hc hb hh
        have ha := of_decide_eq_true ha.symm
        exact stay (by omega) (by rw [← hh]; rfl) _ ⟨⟨rfl, rfl, rfl, rfl, rfl, rfl, rfl, trivial⟩, rfl⟩
      · rename_i ha c hc hb
        exact absurd (hb.trans (congrArg not hc)) (by decide)
      · rename_i ha
        exact last (of_decide_eq_false ha.symm) _ ⟨rfl, rfl⟩
    | cons x t =>
      repeat' (first | ((conv => whnf); intro _ _) | ((conv => whnf); refine And.intro ?_ ?_ <;> intro h <;> cases h) | ((conv => whnf); rw [eM]) | ((conv => whnf); generalize hX : Tbl.c _ _ _ = X; cases (hX.symm.trans (e12 i) : X = some _); clear hX) | ((conv => whnf); refine ldS rfl ?_ ?_) | ((conv => whnf); refine And.intro (?_ : Side _) ?_) | ((conv => whnf); refine Or.inl ?_) | fail)
      all_goals (conv => whnf)
      · rename_i ha
        exact ⟨Int.natCast_nonneg _, of_decide_eq_true ha.symm⟩
      · rw [List.length_cons] at hfl
        exact ap9W (M := 1) (by rw [strsD_length, List.length_cons]; omega) rfl (Nat.le_refl _) (Nat.succ_ne_zero _) (by omega)
      · rename_i ha c hc hb hh
        have ha := of_decide_eq_true ha.symm
        exact more (by omega) (by rw [← hh]; rfl) _ ⟨⟨rfl, rfl, rfl, rfl, rfl, rfl, rfl, trivial⟩, rfl⟩
      · rename_i ha c hc hb hh
        have ha := of_decide_eq_true ha.symm
        exact stay (by omega) (by rw [← hh]; rfl) _ ⟨⟨rfl, rfl, rfl, rfl, rfl, rfl, rfl, trivial⟩, rfl⟩
      · rename_i ha c hc hb
        exact absurd (hb.trans (congrArg not hc)) (by decide)
      · rename_i ha
        exact last (of_decide_eq_false ha.symm) _ ⟨rfl, rfl⟩

end Go.Proofs.Ytejejeginfjnjaa
