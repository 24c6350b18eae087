/- PlaceLacks answers true. -/
import Derived.Test.YtejejeginfjnjaaAiPlaceYc
namespace Go.Proofs.Ytejejeginfjnjaa
open Go Go.AI
set_option linter.unusedVariables false

structure F4 where
  f6 : List AV → Option AV
  f17 : List AV → Option AV
  f18 : List AV → Option AV
  f19 : List AV → Option AV
  f16 : List AV → List AObj → Option (AV × List AObj)
def F4.tbl (f : F4) : Tbl := tblAdd 6 f.f6 (tblAdd 17 f.f17 (tblAdd 18 f.f18 (tblAdd 19 f.f19 (tblAddO 16 f.f16 tbl0))))

noncomputable def a4 : Code := match Try.f4.body with | some (.seq a _) => a | _ => .skip
noncomputable def c4 : Code := match Try.f4.body with | some (.seq _ (.seq a _)) => a | _ => .skip
noncomputable def r4 : Code := match Try.f4.body with | some (.seq _ (.seq _ (.seq (.seq a _) _))) => a | _ => .skip
noncomputable def g4 : Code := match Try.f4.body with | some (.seq _ (.seq _ (.seq (.seq _ a) _))) => a | _ => .skip
noncomputable def m4 : Code := match Try.f4.body with | some (.seq _ (.seq _ (.seq _ (.seq a _)))) => a | _ => .skip
theorem body4 : Try.f4.body = some (.seq a4 (.seq c4 (.seq (.seq r4 g4) (.seq m4 .ret)))) := rfl
theorem a4_ok (f : F4) : codeOk f.tbl Try.f4.ntmps a4 = true := by kernel_rfl
theorem c4_ok (f : F4) : codeOk f.tbl Try.f4.ntmps c4 = true := by kernel_rfl
theorem r4_ok (f : F4) : codeOk f.tbl Try.f4.ntmps r4 = true := by kernel_rfl
theorem g4_ok (f : F4) : codeOk f.tbl Try.f4.ntmps g4 = true := by kernel_rfl
theorem m4_ok (f : F4) : codeOk f.tbl Try.f4.ntmps m4 = true := by kernel_rfl

def ar4 (me n : Int) (A B : List (List UInt8)) : List (Nat × AV) := [(0, .d (.int .i64 me)), (1, .d (.int .i64 n)), (2, .d (.sl (strsD A))), (3, .d (.sl (strsD B)))]

def br4 (L : List (List UInt8)) : List (Nat × AV) := [(23, .win 0 0 L.length 3), (24, .d (.int .i64 L.length)), (25, .d (.int .i64 0))]

theorem walkC4 (f : F4) (me n : Int) (A B : List (List UInt8)) (e6 : f.f6 [] = some (.d (.bool true))) (Q : Exit → AS → Prop)
    (hR : ∀ σ, σ.get 8 = .d (.bool true) → Q .ret σ) (hN : (A.length ≤ 30 ∧ B.length ≤ 30) → ∀ σ : AS, allAt σ (ar4 me n A B) ∧ σ.objs = [] → Q .normal σ) :
    rwp T f.tbl (strip f.tbl c4) Q ⟨ar4 me n A B, []⟩ := by
  repeat' (first | ((conv => whnf); intro _ _) | ((conv => whnf); refine And.intro ?_ ?_ <;> intro h <;> cases h) | ((conv => whnf); generalize hX : Tbl.c _ _ _ = X; cases (hX.symm.trans e6 : X = some _); clear hX) | fail)
  all_goals (conv => whnf)
  · exact hR _ (congrArg (fun z => AV.d (D.bool z)) (by assumption))
  · exact hR _ (congrArg (fun z => AV.d (D.bool z)) (by assumption))
  · rename_i h1 h2
    have h1 := of_decide_eq_false h1.symm
    have h2 := of_decide_eq_false h2.symm
    rw [strsD_length] at h1 h2
    exact hN ⟨by omega, by omega⟩ _ ⟨⟨rfl, rfl, rfl, rfl, trivial⟩, rfl⟩

theorem walkR4 (f : F4) (me n : Int) (A B : List (List UInt8)) (hA : A.length ≤ 30) (hB : B.length ≤ 30) (e16 : f.f16 [.d (.sl (strsD A))] [] = some (.win 0 0 A.length 2, [.arr (strsD A) 1 2])) (Q : Exit → AS → Prop)
    (hN : ∀ σ : AS, allAt σ (ar4 me n A B ++ br4 (A ++ B)) ∧ σ.objs = [.arr (strsD (A ++ B)) 1 3] → Q .normal σ) :
    rwp T f.tbl (strip f.tbl r4) Q ⟨ar4 me n A B, []⟩ := by
  repeat' (first | ((conv => whnf); intro _ _) | ((conv => whnf); refine And.intro ?_ ?_ <;> intro h <;> cases h) | ((conv => whnf); generalize hX : Tbl.o _ _ _ _ = X; cases (hX.symm.trans e16 : X = some _); clear hX) | ((conv => whnf); refine And.intro (?_ : Side _) ?_) | ((conv => whnf); refine Or.inl ?_) | fail)
  all_goals (conv => whnf)
  · exact ap9W (M := 30) (by rw [strsD_length]; omega) (strsD_all _) (by rw [strsD_length]; exact hB) (by decide) (by omega)
  · have e1 : A.length + (strsD B).length = (A ++ B).length := by rw [strsD_length, List.length_append]
    have e2 : strsD (A ++ B) = strsD A ++ strsD B := by simp [strsD]
    refine hN _ ⟨⟨rfl, rfl, rfl, rfl, congrArg (fun z => AV.win 0 0 z 3) e1, congrArg (fun z : Nat => AV.d (D.int .i64 z)) e1, rfl, trivial⟩, ?_⟩
    rw [e2]
    rfl

def st4 (me n : Int) (A B L : List (List UInt8)) (i : Nat) : AS :=
  ⟨ar4 me n A B ++ [(23, .win 0 0 L.length 3), (24, .d (.int .i64 L.length)), (25, .d (.int .i64 i))], [.arr (strsD L) 1 3]⟩

theorem walkG4 (f : F4) (me n : Int) (A B L : List (List UInt8)) (hL : L.length ≤ 60) (e6 : f.f6 [] = some (.d (.bool true))) (Q : Exit → AS → Prop)
    (hR : ∀ σ, σ.get 8 = .d (.bool true) → Q .ret σ) (hN : (∀ s ∈ L, s.length ≤ 200) → ∀ σ : AS, allAt σ (ar4 me n A B) ∧ σ.objs = [.arr (strsD L) 1 3] → Q .normal σ) :
    rwp T f.tbl (strip f.tbl g4) Q (st4 me n A B L 0) := by
  conv => whnf
  refine ⟨fun k σ => ∃ i, i ≤ L.length ∧ (∀ s ∈ L.take i, s.length ≤ 200) ∧ k = L.length - i ∧ σ = st4 me n A B L i, L.length, ⟨st4 me n A B L 0, atL _ ⟨rfl, rfl, rfl, rfl, rfl, rfl, rfl, trivial⟩, 0, by omega, by simp, rfl, rfl⟩, ?_⟩
  rintro k σ ⟨i, hi, hs, rfl, rfl⟩
  repeat' (first | ((conv => whnf); intro _ _) | ((conv => whnf); refine And.intro ?_ ?_ <;> intro h <;> cases h) | ((conv => whnf); generalize hX : Tbl.c _ _ _ = X; cases (hX.symm.trans e6 : X = some _); clear hX) | ((conv => whnf); refine ldSo ?_ ?_) | ((conv => whnf); refine And.intro (?_ : Side _) ?_) | fail)
  all_goals (conv => whnf)
  · rename_i ha
    exact ⟨⟨rfl, rfl⟩, Int.natCast_nonneg _, of_decide_eq_true ha.symm⟩
  · rename_i ha
    have ha := of_decide_eq_true ha.symm
    exact ⟨rfl, by omega⟩
  · exact hR _ (congrArg (fun z => AV.d (D.bool z)) (by assumption))
  · rename_i ha hb
    have ha := of_decide_eq_true ha.symm
    have hb := of_decide_eq_false hb.symm
    have e : 0 + ((i : Nat) : Int).toNat + 0 = i := by omega
    rw [e] at hb
    refine ⟨L.length - (i + 1), st4 me n A B L (i + 1), by omega, atL _ ⟨rfl, rfl, rfl, rfl, rfl, rfl, congrArg (fun z => AV.d (D.int .i64 z)) (wi (m := i + 1) (by omega) (by omega)), trivial⟩, i + 1, by omega, ?_, rfl, rfl⟩
    intro s h
    rw [take_succ' [] (show i < L.length by omega), List.mem_append, List.mem_singleton] at h
    rcases h with h | rfl
    · exact hs s h
    · omega
  · rename_i ha
    have ha := of_decide_eq_false ha.symm
    have : i = L.length := by omega
    subst this
    rw [List.take_length] at hs
    exact hN hs _ ⟨⟨rfl, rfl, rfl, rfl, trivial⟩, rfl⟩

theorem walkM4 (f : F4) (me n : Int) (A B F : List (List UInt8)) (ob : List AObj) (e6 : f.f6 [] = some (.d (.bool true)))
    (e18 : f.f18 [.d (.int .i64 me), .d (.int .i64 n), .d (.sl (strsD A)), .d (.sl (strsD B))] = some (.d (.sl (strsD F)))) (e19 : f.f19 [.d (.int .i64 me), .d (.int .i64 n), .d (.sl (strsD A)), .d (.sl (strsD B))] = some (.d (.sl (strsD F))))
    (e17 : f.f17 [.d (.sl (strsD F)), .d (.sl (strsD F))] = some (.d (.bool true))) (Q : Exit → AS → Prop) (hN : ∀ σ : AS, σ.get 8 = .d (.bool true) → Q .normal σ) :
    rwp T f.tbl (strip f.tbl m4) Q ⟨ar4 me n A B, ob⟩ := by
  repeat' (first | ((conv => whnf); intro _ _) | ((conv => whnf); refine And.intro ?_ ?_ <;> intro h <;> cases h) | ((conv => whnf); generalize hX : Tbl.c _ _ _ = X; first | (cases (hX.symm.trans e18 : X = some _)) | (cases (hX.symm.trans e19 : X = some _)) | (cases (hX.symm.trans e17 : X = some _)) | (cases (hX.symm.trans e6 : X = some _)); clear hX) | fail)
  all_goals (conv => whnf)
  · exact hN _ (congrArg (fun z => AV.d (D.bool z)) (by assumption))
  · exact absurd ‹false = true› Bool.false_ne_true

def S4 : List AV → Option AV
  | [.d (.int .i64 _), .d (.int .i64 _), .d (.sl a), .d (.sl b)] => if a.all isS = true ∧ b.all isS = true then some (.d (.bool true)) else none
  | _ => none

theorem weakL {P : Program} {nt : Nat} {c : Code} {Q : Exit → AS → Prop} {σ : AS} {l : List (Nat × AV)} {ob : List AObj} (h0 : allAt σ l) (ho : σ.objs = ob) (h : RW P nt c Q ⟨l, ob⟩) : RW P nt c Q σ := by
  obtain ⟨tm, ob'⟩ := σ
  have ho : ob' = ob := ho
  subst ho
  refine RW.weak (Weak.at l fun p hp => ?_) h
  clear h
  induction l with
  | nil => cases hp
  | cons q l ih =>
    rcases List.mem_cons.1 hp with rfl | hp
    · exact h0.1
    · exact ih h0.2 hp

theorem S4_ok : SpecOk Try.prog 4 S4 := by
  obtain ⟨f, hf⟩ : ∃ f : F4, f = ⟨S6, S17, S18, S19, S16⟩ := ⟨_, rfl⟩
  have htb : TblOk Try.prog f.tbl := by
    subst hf
    exact tblAdd_ok S6_ok (tblAdd_ok S17_ok (tblAdd_ok S18_ok (tblAdd_ok S19_ok (tblAddO_ok S16_ok (tbl0_ok _)))))
  have e6 : f.f6 [] = some (.d (.bool true)) := by rw [hf]; rfl
  have e16 : ∀ A : List (List UInt8), A.length ≤ 30 → f.f16 [.d (.sl (strsD A))] [] = some (.win 0 0 A.length 2, [.arr (strsD A) 1 2]) := by
    subst hf
    intro A hA
    simp only [S16]
    rw [if_pos ⟨strsD_all _, by rw [strsD_length]; omega⟩, strsD_length]
  have eF : ∀ (me n : Int) (A B : List (List UInt8)), A.length ≤ 30 → B.length ≤ 30 → (∀ s ∈ A ++ B, s.length ≤ 200) → ∃ F,
      f.f18 [.d (.int .i64 me), .d (.int .i64 n), .d (.sl (strsD A)), .d (.sl (strsD B))] = some (.d (.sl (strsD F))) ∧
      f.f19 [.d (.int .i64 me), .d (.int .i64 n), .d (.sl (strsD A)), .d (.sl (strsD B))] = some (.d (.sl (strsD F))) ∧ f.f17 [.d (.sl (strsD F)), .d (.sl (strsD F))] = some (.d (.bool true)) := by
    subst hf
    intro me n A B hA hB hs
    have hsh : short A = true := by
      simp only [short, List.all_eq_true, decide_eq_true_eq]
      intro s h
      have := hs s (List.mem_append_left _ h)
      omega
    have hc : (((strsD A).all isS = true ∧ (strsD B).all isS = true) ∧ short ((strsD A).map sOf) = true ∧ (strsD A).length < 1000 ∧ (strsD B).length < 1000) :=
      ⟨⟨strsD_all _, strsD_all _⟩, by rw [strsD_sOf]; exact hsh, by rw [strsD_length]; omega, by rw [strsD_length]; omega⟩
    refine ⟨lacksI me n A B, ?_, ?_, ?_⟩
    · simp only [S18]
      rw [if_pos hc, strsD_sOf, strsD_sOf]
    · simp only [S19]
      rw [if_pos hc, strsD_sOf, strsD_sOf]
    · simp only [S17]
      have : (lacksI me n A B).length ≤ A.length := List.length_filter_le _ _
      rw [if_pos ⟨⟨strsD_all _, strsD_all _⟩, by rw [strsD_length]; omega⟩]
      simp
  clear hf
  intro args r h
  unfold S4 at h
  split at h
  · rename_i me n ra rb
    split at h
    · rename_i hc
      obtain ⟨h1, h2⟩ := hc
      have h1 := strsD_of h1
      have h2 := strsD_of h2
      generalize ra.map sOf = A at h1 h
      generalize rb.map sOf = B at h2 h
      subst h1 h2
      cases h
      refine ⟨enters' Try.func4 (by kernel_rfl) rfl, fun i hi => ?_, fn0_of' T_ok Try.func4 body4 (Nat.le_of_ble_eq_true rfl) rfl ?_⟩
      · match i, hi with
        | 0, _ => rfl
        | 1, _ => rfl
        | 2, _ => rfl
        | 3, _ => rfl
      have ret : ∀ σ : AS, σ.get 8 = .d (.bool true) → resK T Try.f4.results.toList (.d (.bool true)) .ret σ := by
        intro σ h
        show see (σ.get 8) (fun v => v = .d (.bool true))
        rw [h]
        rfl
      refine RW.seq (fun σ => allAt σ (ar4 me n A B) ∧ σ.objs = []) (RW.of T_ok htb mixed (a4_ok f) (by (conv => whnf); exact ⟨⟨rfl, rfl, rfl, rfl, trivial⟩, rfl⟩)) fun σ0 h0 => ?_
      refine weakL h0.1 h0.2 ?_
      refine RW.seq (fun σ => (A.length ≤ 30 ∧ B.length ≤ 30) ∧ allAt σ (ar4 me n A B) ∧ σ.objs = []) (RW.of T_ok htb mixed (c4_ok f) (walkC4 f me n A B e6 _ (fun σ h => ret σ h) fun h σ h' => ⟨h, h'⟩)) fun σ1 h1 => ?_
      obtain ⟨⟨hA, hB⟩, h0, ho⟩ := h1
      refine weakL h0 ho ?_
      refine RW.seq (fun σ => (∀ s ∈ A ++ B, s.length ≤ 200) ∧ allAt σ (ar4 me n A B)) (RW.seq (fun σ => allAt σ (ar4 me n A B ++ br4 (A ++ B)) ∧ σ.objs = [.arr (strsD (A ++ B)) 1 3])
        (RW.of T_ok htb mixed (r4_ok f) (walkR4 f me n A B hA hB (e16 A hA) _ fun σ h => h)) fun σ2 h2 => ?_) fun σ3 h3 => ?_
      · refine weakL h2.1 h2.2 ?_
        exact RW.of T_ok htb mixed (g4_ok f) (walkG4 f me n A B (A ++ B) (by rw [List.length_append]; omega) e6 _ (fun σ h => ret σ h) fun h σ h' => ⟨h, h'.1⟩)
      obtain ⟨hs, h0⟩ := h3
      obtain ⟨F, e18, e19, e17⟩ := eF me n A B hA hB hs
      refine weakL h0 rfl ?_
      refine RW.seq (fun σ => σ.get 8 = .d (.bool true)) (RW.of T_ok htb mixed (m4_ok f) (walkM4 f me n A B F _ e6 e18 e19 e17 _ fun σ h => h)) fun σ4 h4 => ?_
      exact RW.of T_ok htb mixed (by kernel_rfl) (ret σ4 h4)
    · cases h
  · cases h

end Go.Proofs.Ytejejeginfjnjaa
