/- PlaceOnce answers true. -/
import Derived.Test.YtejejeginfjnjaaAiPlaceW
namespace Go.Proofs.Ytejejeginfjnjaa
open Go Go.AI Go.Shelf
set_option linter.unusedVariables false

structure F5 where
  f6 : List AV → Option AV
  f8 : List AV → Option AV
  f12 : List AV → Option AV
  f20 : List AV → List AObj → Option (AV × List AObj)
  f21 : List AV → List AObj → Option (AV × List AObj)
def F5.tbl (f : F5) : Tbl := tblAdd 6 f.f6 (tblAdd 8 f.f8 (tblAdd 12 f.f12 (tblAddO 20 f.f20 (tblAddO 21 f.f21 tbl0))))

noncomputable def a5 : Code := match Try.f5.body with | some (.seq a _) => a | _ => .skip
noncomputable def c5 : Code := match Try.f5.body with | some (.seq _ (.seq a _)) => a | _ => .skip
noncomputable def d5 : Code := match Try.f5.body with | some (.seq _ (.seq _ (.seq a _))) => a | _ => .skip
noncomputable def e5 : Code := match Try.f5.body with | some (.seq _ (.seq _ (.seq _ (.seq a _)))) => a | _ => .skip
noncomputable def g5 : Code := match Try.f5.body with | some (.seq _ (.seq _ (.seq _ (.seq _ (.seq a _))))) => a | _ => .skip
noncomputable def h5 : Code := match Try.f5.body with | some (.seq _ (.seq _ (.seq _ (.seq _ (.seq _ (.seq a _)))))) => a | _ => .skip
noncomputable def k5 : Code := match Try.f5.body with | some (.seq _ (.seq _ (.seq _ (.seq _ (.seq _ (.seq _ (.seq a _))))))) => a | _ => .skip
noncomputable def m5 : Code := match Try.f5.body with | some (.seq _ (.seq _ (.seq _ (.seq _ (.seq _ (.seq _ (.seq _ (.seq a _)))))))) => a | _ => .skip
theorem body5 : Try.f5.body = some (.seq a5 (.seq c5 (.seq d5 (.seq e5 (.seq g5 (.seq h5 (.seq k5 (.seq m5 .ret)))))))) := rfl
theorem a5_ok (f : F5) : codeOk f.tbl Try.f5.ntmps a5 = true := by kernel_rfl
theorem c5_ok (f : F5) : codeOk f.tbl Try.f5.ntmps c5 = true := by kernel_rfl
theorem d5_ok (f : F5) : codeOk f.tbl Try.f5.ntmps d5 = true := by kernel_rfl
theorem e5_ok (f : F5) : codeOk f.tbl Try.f5.ntmps e5 = true := by kernel_rfl
theorem g5_ok (f : F5) : codeOk f.tbl Try.f5.ntmps g5 = true := by kernel_rfl
theorem h5_ok (f : F5) : codeOk f.tbl Try.f5.ntmps h5 = true := by kernel_rfl
theorem k5_ok (f : F5) : codeOk f.tbl Try.f5.ntmps k5 = true := by kernel_rfl
theorem m5_ok (f : F5) : codeOk f.tbl Try.f5.ntmps m5 = true := by kernel_rfl

def upI (m : Nat) : List Int := (List.range m).map fun x : Nat => (x : Int)
theorem upI_length (m : Nat) : (upI m).length = m := by simp [upI]
theorem upI_get (m : Nat) {i : Nat} (hi : i < m) : (upI m).getD i 0 = (i : Int) := by simp [upI, List.getD_eq_getElem?_getD, hi]

/-- The test at the head. -/
theorem walkC5 (f : F5) (s : List UInt8) (n : Int) (e6 : f.f6 [] = some (.d (.bool true))) (Q : Exit → AS → Prop)
    (hR : ∀ σ, σ.get 4 = .d (.bool true) → Q .ret σ) (hN : (s.length < 549755813888 ∧ 1 ≤ n ∧ n ≤ 7) → ∀ σ : AS, (σ.get 0 = .d (.str s) ∧ σ.get 1 = .d (.int .i64 n)) ∧ σ.objs = [] → Q .normal σ) :
    rwp T f.tbl (strip f.tbl c5) Q ⟨[(0, .d (.str s)), (1, .d (.int .i64 n))], []⟩ := by
  repeat' (first | ((conv => whnf); intro _ _) | ((conv => whnf); refine And.intro ?_ ?_ <;> intro h <;> cases h) | ((conv => whnf); generalize hX : Tbl.c _ _ _ = X; cases (hX.symm.trans e6 : X = some _); clear hX) | fail)
  all_goals (conv => whnf)
  · exact hR _ (congrArg (fun z => AV.d (D.bool z)) (by assumption))
  · exact hR _ (congrArg (fun z => AV.d (D.bool z)) (by assumption))
  · exact hR _ (congrArg (fun z => AV.d (D.bool z)) (by assumption))
  · rename_i h1 h2 h3
    have h1 := of_decide_eq_false h1.symm
    have h2 := of_decide_eq_false h2.symm
    have h3 := of_decide_eq_false h3.symm
    exact hN ⟨by omega, by omega, by omega⟩ _ ⟨⟨rfl, rfl⟩, rfl⟩

def stG (s : List UInt8) (n : Int) (m i : Nat) : AS :=
  ⟨[(0, .d (.str s)), (1, .d (.int .i64 n)), (5, .win 0 0 m 2), (28, .win 0 0 m 2), (29, .d (.int .i64 (m : Nat))), (30, .d (.int .i64 (i : Nat)))], [.arr (rowsZ (upI m)) 1 2]⟩

/-- The loop over the sorted nodes. -/
theorem walkG5 (f : F5) (s : List UInt8) (n : Int) (m : Nat) (hm : m ≤ 7) (Q : Exit → AS → Prop)
    (hN : ∀ σ : AS, (σ.get 0 = .d (.str s) ∧ σ.get 1 = .d (.int .i64 n) ∧ σ.get 5 = .win 0 0 m 2) ∧ σ.objs = [.arr (rowsZ (upI m)) 1 2] → Q .normal σ) :
    rwp T f.tbl (strip f.tbl g5) Q ⟨[(0, .d (.str s)), (1, .d (.int .i64 n)), (5, .win 0 0 m 2)], [.arr (rowsZ (upI m)) 1 2]⟩ := by
  conv => whnf
  refine ⟨fun k σ => ∃ i, i ≤ m ∧ k = m - i ∧ σ = stG s n m i, m, ⟨stG s n m 0, atL _ ⟨rfl, rfl, rfl, rfl, rfl, rfl, trivial⟩, 0, by omega, rfl, rfl⟩, ?_⟩
  rintro k σ ⟨i, hi, rfl, rfl⟩
  repeat' (first | ((conv => whnf); intro _ _) | ((conv => whnf); refine And.intro ?_ ?_ <;> intro h <;> cases h) | ((conv => whnf); refine ldZo ?_ ?_) | ((conv => whnf); refine And.intro (?_ : Side _) ?_) | fail)
  all_goals (conv => whnf)
  · rename_i ha
    have ha := of_decide_eq_true ha.symm
    exact ⟨⟨rfl, rfl⟩, Int.natCast_nonneg _, ha⟩
  · rename_i ha
    have ha := of_decide_eq_true ha.symm
    exact ⟨rfl, by rw [upI_length]; omega⟩
  · exfalso
    rename_i ha hb
    have ha := of_decide_eq_true ha.symm
    have e1 : 0 + ((i : Nat) : Int).toNat + 0 = i := by omega
    rw [e1, upI_get m (by omega)] at hb
    simp at hb
  · rename_i ha hb
    have ha := of_decide_eq_true ha.symm
    exact ⟨m - (i + 1), stG s n m (i + 1), by omega, atL _ ⟨rfl, rfl, rfl, rfl, rfl, congrArg (fun z => AV.d (D.int .i64 z)) (wi (m := i + 1) (by omega) (by omega)), trivial⟩, i + 1, by omega, rfl, rfl⟩
  · exact hN _ ⟨⟨rfl, rfl, rfl⟩, rfl⟩

def cntH (s : List UInt8) (n : Int) (i : Nat) : Nat := (List.range i).countP fun k : Nat => hasI s n (k : Int)
theorem cntH_succ (s : List UInt8) (n : Int) (i : Nat) : cntH s n (i + 1) = cntH s n i + (hasI s n (i : Int)).toNat := by
  rw [cntH, List.range_succ, List.countP_append]
  cases h : hasI s n (i : Int) <;> simp [cntH, h]
theorem cntH_le (s : List UInt8) (n : Int) (i : Nat) : cntH s n i ≤ i := by
  have := List.countP_le_length (p := fun k : Nat => hasI s n (k : Int)) (l := List.range i)
  rw [List.length_range] at this
  exact this

def stK (s : List UInt8) (n : Int) (m i : Nat) : AS :=
  ⟨[(0, .d (.str s)), (1, .d (.int .i64 n)), (5, .win 0 0 m 2), (8, .d (.int .i64 (cntH s n i : Nat))), (39, .d (.int .i64 n)), (40, .d (.int .i64 (i : Nat)))], [.arr (rowsZ (upI m)) 1 2]⟩

/-- The loop that counts the nodes that have it. -/
theorem walkK5 (f : F5) (s : List UInt8) (m : Nat) (hm : m ≤ 7) (e12 : ∀ v, f.f12 [.d (.str s), .d (.int .i64 (m : Nat)), .d (.int .i64 v)] = some (.d (.bool (hasI s (m : Nat) v)))) (Q : Exit → AS → Prop)
    (hN : ∀ σ : AS, (σ.get 1 = .d (.int .i64 (m : Nat)) ∧ σ.get 5 = .win 0 0 m 2 ∧ σ.get 8 = .d (.int .i64 (cntH s (m : Nat) m : Nat))) ∧ σ.objs = [.arr (rowsZ (upI m)) 1 2] → Q .normal σ) :
    rwp T f.tbl (strip f.tbl k5) Q ⟨[(0, .d (.str s)), (1, .d (.int .i64 (m : Nat))), (5, .win 0 0 m 2), (8, .d (.int .i64 0))], [.arr (rowsZ (upI m)) 1 2]⟩ := by
  conv => whnf
  refine ⟨fun k σ => ∃ i, i ≤ m ∧ k = m - i ∧ σ = stK s (m : Nat) m i, m, ⟨stK s (m : Nat) m 0, atL _ ⟨rfl, rfl, rfl, rfl, rfl, rfl, trivial⟩, 0, by omega, rfl, rfl⟩, ?_⟩
  rintro k σ ⟨i, hi, rfl, rfl⟩
  repeat' (first | ((conv => whnf); intro _ _) | ((conv => whnf); refine And.intro ?_ ?_ <;> intro h <;> cases h) | ((conv => whnf); generalize hX : Tbl.c _ _ _ = X; cases (hX.symm.trans (e12 _) : X = some _); clear hX) | ((conv => whnf); refine And.intro (?_ : Side _) ?_) | fail)
  all_goals (conv => whnf)
  · rename_i ha hb
    have ha := of_decide_eq_true ha.symm
    have h1 := cntH_succ s (m : Nat) i
    have h2 := cntH_le s (m : Nat) i
    rw [← hb] at h1
    have h1 : cntH s (m : Nat) (i + 1) = cntH s (m : Nat) i + 1 := h1
    exact ⟨m - (i + 1), stK s (m : Nat) m (i + 1), by omega, atL _ ⟨rfl, rfl, rfl, congrArg (fun z => AV.d (D.int .i64 z)) (wi (m := cntH s (m : Nat) (i + 1)) (by omega) (by omega)), rfl, congrArg (fun z => AV.d (D.int .i64 z)) (wi (m := i + 1) (by omega) (by omega)), trivial⟩, i + 1, by omega, rfl, rfl⟩
  · rename_i ha hb
    have ha := of_decide_eq_true ha.symm
    have h1 := cntH_succ s (m : Nat) i
    rw [← hb] at h1
    have h1 : cntH s (m : Nat) (i + 1) = cntH s (m : Nat) i := h1
    exact ⟨m - (i + 1), stK s (m : Nat) m (i + 1), by omega, atL _ ⟨rfl, rfl, rfl, congrArg (fun z : Nat => AV.d (D.int .i64 z)) h1.symm, rfl, congrArg (fun z => AV.d (D.int .i64 z)) (wi (m := i + 1) (by omega) (by omega)), trivial⟩, i + 1, by omega, rfl, rfl⟩
  · rename_i ha
    have ha := of_decide_eq_false ha.symm
    have : i = m := by omega
    subst this
    exact hN _ ⟨⟨rfl, rfl, rfl⟩, rfl⟩

/-- The last test. -/
theorem walkM5 (f : F5) (m c : Nat) (hc : c = min m 3) (e6 : f.f6 [] = some (.d (.bool true))) (Q : Exit → AS → Prop) (hN : ∀ σ : AS, σ.get 4 = .d (.bool true) → Q .normal σ) :
    rwp T f.tbl (strip f.tbl m5) Q ⟨[(1, .d (.int .i64 (m : Nat))), (5, .win 0 0 m 2), (8, .d (.int .i64 (c : Nat)))], [.arr (rowsZ (upI m)) 1 2]⟩ := by
  repeat' (first | ((conv => whnf); intro _ _) | ((conv => whnf); refine And.intro ?_ ?_ <;> intro h <;> cases h) | ((conv => whnf); generalize hX : Tbl.c _ _ _ = X; cases (hX.symm.trans e6 : X = some _); clear hX) | fail)
  all_goals (conv => whnf)
  · exact hN _ (congrArg (fun z => AV.d (D.bool z)) (by assumption))
  · exfalso
    rename_i ha hb
    have hb : ((c : Nat) : Int) ≠ if (3 : Int) < (m : Nat) then 3 else ((m : Nat) : Int) := by
      intro h
      rw [h] at hb
      simp at hb
    split at hb <;> omega
  · exfalso
    rename_i ha
    simp at ha

def S5 : List AV → Option AV
  | [.d (.str _), .d (.int .i64 _)] => some (.d (.bool true))
  | _ => none

theorem S5_ok : SpecOk Try.prog 5 S5 := by
  obtain ⟨f, hf⟩ : ∃ f : F5, f = ⟨S6, S8, S12, S20, S21⟩ := ⟨_, rfl⟩
  have htb : TblOk Try.prog f.tbl := by
    subst hf
    exact tblAdd_ok S6_ok (tblAdd_ok S8_ok (tblAdd_ok S12_ok (tblAddO_ok S20_ok (tblAddO_ok S21_ok (tbl0_ok _)))))
  have e6 : f.f6 [] = some (.d (.bool true)) := by rw [hf]; rfl
  have e8 : ∀ (s : List UInt8) (n : Int), s.length < 549755813888 → f.f8 [.d (.str s), .d (.int .i64 n)] = some (.d (.sl (intsD (ordI s n)))) := by
    subst hf
    intro s n hs
    simp only [S8]
    rw [if_pos hs, ordI_nodes]
  have e12 : ∀ (s : List UInt8) (n v : Int), s.length < 549755813888 → f.f12 [.d (.str s), .d (.int .i64 n), .d (.int .i64 v)] = some (.d (.bool (hasI s n v))) := by
    subst hf
    intro s n v hs
    simp only [S12]
    rw [if_pos hs]
  have e20 : ∀ (a : Nat) (l : List Nat), l.length < 10 → f.f20 [.d (.sl (intsD (a :: l)))] [] = some (.win 0 0 (a :: l).length 2, [.arr (intsD (a :: l)) 1 2]) := by
    subst hf
    intro a l hl
    show S20 [.d (.sl (_ :: _))] [] = _
    simp only [S20]
    rw [if_pos]
    · have : (intsD (a :: l)).length = (a :: l).length := intsD_length _
      exact congrArg (fun z => some (AV.win 0 0 z 2, _)) this
    · refine ⟨intsD_all (a :: l), ?_⟩
      have : (intsD (a :: l)).length = (a :: l).length := intsD_length _
      show (intsD (a :: l)).length < _
      rw [this, List.length_cons]
      omega
  have e21 : ∀ (s : List UInt8) (m : Nat), 0 < m → m ≤ 7 → f.f21 [.win 0 0 m 2] [.arr (intsD (ordI s (m : Nat))) 1 2] = some (.tup [], [.arr (rowsZ (upI m)) 1 2]) := by
    subst hf
    intro s m h0 h7
    have hcl : clamp7 (m : Nat) = m := by unfold clamp7; omega
    simp only [S21, sortI]
    rw [if_pos ⟨⟨trivial, trivial⟩, ⟨trivial, trivial, by rw [intsD_length, ordI_length, hcl]⟩, h0, by omega, intsD_all _⟩, intsD_int, sortZ_ord, hcl]
    rfl
  clear hf
  intro args r h
  unfold S5 at h
  split at h
  · rename_i s n
    cases h
    refine ⟨enters_of Try.func5 (by kernel_rfl) rfl, fun i hi => ?_, fn0_of' T_ok Try.func5 body5 (Nat.le_of_ble_eq_true rfl) rfl ?_⟩
    · match i, hi with
      | 0, _ => rfl
      | 1, _ => rfl
    refine RW.seq (fun σ => (σ.get 0 = .d (.str s) ∧ σ.get 1 = .d (.int .i64 n)) ∧ σ.objs = []) (RW.of T_ok htb mixed (a5_ok f) (by (conv => whnf); exact ⟨⟨rfl, rfl⟩, rfl⟩)) fun σ0 h0 => ?_
    obtain ⟨tm, ob⟩ := σ0
    obtain ⟨⟨h0, h1⟩, h3⟩ := h0
    have h3 : ob = [] := h3
    subst h3
    refine RW.weak (Weak.at [(0, .d (.str s)), (1, .d (.int .i64 n))] fun p hp => by
      simp only [List.mem_cons, List.not_mem_nil, or_false] at hp
      rcases hp with rfl | rfl <;> assumption) ?_
    refine RW.seq (fun σ => (s.length < 549755813888 ∧ 1 ≤ n ∧ n ≤ 7) ∧ (σ.get 0 = .d (.str s) ∧ σ.get 1 = .d (.int .i64 n)) ∧ σ.objs = []) (RW.of T_ok htb mixed (c5_ok f) (walkC5 f s n e6 _ (fun σ h => ?_) fun h σ h' => ⟨h, h'⟩)) fun σ1 h1 => ?_
    · show see (σ.get 4) (fun v => v = .d (.bool true))
      rw [h]
      rfl
    obtain ⟨tm1, ob1⟩ := σ1
    obtain ⟨⟨hs, hn1, hn7⟩, ⟨h0, h1⟩, h3⟩ := h1
    have h3 : ob1 = [] := h3
    subst h3
    obtain ⟨m, rfl⟩ : ∃ m : Nat, n = (m : Nat) := ⟨n.toNat, by omega⟩
    have hcl : clamp7 (m : Nat) = m := by unfold clamp7; omega
    have hlen : (ordI s (m : Nat)).length = m := by rw [ordI_length, hcl]
    have e8 := e8 s (m : Nat) hs
    have e21 := e21 s m (by omega) (by omega)
    refine RW.weak (Weak.at [(0, .d (.str s)), (1, .d (.int .i64 (m : Nat)))] fun p hp => by
      simp only [List.mem_cons, List.not_mem_nil, or_false] at hp
      rcases hp with rfl | rfl <;> assumption) ?_
    refine RW.seq (fun σ => (σ.get 0 = .d (.str s) ∧ σ.get 1 = .d (.int .i64 (m : Nat)) ∧ σ.get 5 = .win 0 0 m 2) ∧ σ.objs = [.arr (intsD (ordI s (m : Nat))) 1 2]) (RW.of T_ok htb mixed (d5_ok f) ?_) fun σ2 h2 => ?_
    · match hx : ordI s (m : Nat), hlen with
      | [], h => exact absurd h.symm (by simp; omega)
      | a :: l, h =>
        rw [hx] at e8
        have e20 := e20 a l (by rw [List.length_cons] at h; omega)
        rw [h] at e20
        repeat' (first | ((conv => whnf); generalize hX : Tbl.c _ _ _ = X; cases (hX.symm.trans e8 : X = some _); clear hX) | ((conv => whnf); generalize hX : Tbl.o _ _ _ _ = X; cases (hX.symm.trans e20 : X = some _); clear hX) | fail)
        all_goals (conv => whnf)
        exact ⟨⟨rfl, rfl, rfl⟩, rfl⟩
    obtain ⟨tm2, ob2⟩ := σ2
    obtain ⟨⟨h0, h1, h5⟩, h3⟩ := h2
    have h3 : ob2 = _ := h3
    subst h3
    refine RW.weak (Weak.at [(0, .d (.str s)), (1, .d (.int .i64 (m : Nat))), (5, .win 0 0 m 2)] fun p hp => by
      simp only [List.mem_cons, List.not_mem_nil, or_false] at hp
      rcases hp with rfl | rfl | rfl <;> assumption) ?_
    refine RW.seq (fun σ => (σ.get 0 = .d (.str s) ∧ σ.get 1 = .d (.int .i64 (m : Nat)) ∧ σ.get 5 = .win 0 0 m 2) ∧ σ.objs = [.arr (rowsZ (upI m)) 1 2]) (RW.of T_ok htb mixed (e5_ok f) ?_) fun σ3 h3' => ?_
    · repeat' (first | ((conv => whnf); generalize hX : Tbl.o _ _ _ _ = X; cases (hX.symm.trans e21 : X = some _); clear hX) | fail)
      all_goals (conv => whnf)
      exact ⟨⟨rfl, rfl, rfl⟩, rfl⟩
    obtain ⟨tm3, ob3⟩ := σ3
    obtain ⟨⟨h0, h1, h5⟩, h3⟩ := h3'
    have h3 : ob3 = _ := h3
    subst h3
    refine RW.weak (Weak.at [(0, .d (.str s)), (1, .d (.int .i64 (m : Nat))), (5, .win 0 0 m 2)] fun p hp => by
      simp only [List.mem_cons, List.not_mem_nil, or_false] at hp
      rcases hp with rfl | rfl | rfl <;> assumption) ?_
    refine RW.seq (fun σ => (σ.get 0 = .d (.str s) ∧ σ.get 1 = .d (.int .i64 (m : Nat)) ∧ σ.get 5 = .win 0 0 m 2) ∧ σ.objs = [.arr (rowsZ (upI m)) 1 2]) (RW.of T_ok htb mixed (g5_ok f) (walkG5 f s (m : Nat) m (by omega) _ fun σ h => h)) fun σ4 h4 => ?_
    obtain ⟨tm4, ob4⟩ := σ4
    obtain ⟨⟨h0, h1, h5⟩, h3⟩ := h4
    have h3 : ob4 = _ := h3
    subst h3
    refine RW.weak (Weak.at [(0, .d (.str s)), (1, .d (.int .i64 (m : Nat))), (5, .win 0 0 m 2)] fun p hp => by
      simp only [List.mem_cons, List.not_mem_nil, or_false] at hp
      rcases hp with rfl | rfl | rfl <;> assumption) ?_
    refine RW.seq (fun σ => (σ.get 0 = .d (.str s) ∧ σ.get 1 = .d (.int .i64 (m : Nat)) ∧ σ.get 5 = .win 0 0 m 2 ∧ σ.get 8 = .d (.int .i64 0)) ∧ σ.objs = [.arr (rowsZ (upI m)) 1 2]) (RW.of T_ok htb mixed (h5_ok f) (by (conv => whnf); exact ⟨⟨rfl, rfl, rfl, rfl⟩, rfl⟩)) fun σ5 h5' => ?_
    obtain ⟨tm5, ob5⟩ := σ5
    obtain ⟨⟨h0, h1, h5, h8⟩, h3⟩ := h5'
    have h3 : ob5 = _ := h3
    subst h3
    refine RW.weak (Weak.at [(0, .d (.str s)), (1, .d (.int .i64 (m : Nat))), (5, .win 0 0 m 2), (8, .d (.int .i64 0))] fun p hp => by
      simp only [List.mem_cons, List.not_mem_nil, or_false] at hp
      rcases hp with rfl | rfl | rfl | rfl <;> assumption) ?_
    refine RW.seq (fun σ => (σ.get 1 = .d (.int .i64 (m : Nat)) ∧ σ.get 5 = .win 0 0 m 2 ∧ σ.get 8 = .d (.int .i64 (cntH s (m : Nat) m : Nat))) ∧ σ.objs = [.arr (rowsZ (upI m)) 1 2]) (RW.of T_ok htb mixed (k5_ok f) (walkK5 f s m (by omega) (fun v => e12 s (m : Nat) v hs) _ fun σ h => h)) fun σ6 h6' => ?_
    obtain ⟨tm6, ob6⟩ := σ6
    obtain ⟨⟨h1, h5, h8⟩, h3⟩ := h6'
    have h3 : ob6 = _ := h3
    subst h3
    refine RW.weak (Weak.at [(1, .d (.int .i64 (m : Nat))), (5, .win 0 0 m 2), (8, .d (.int .i64 (cntH s (m : Nat) m : Nat)))] fun p hp => by
      simp only [List.mem_cons, List.not_mem_nil, or_false] at hp
      rcases hp with rfl | rfl | rfl <;> assumption) ?_
    have hcnt : cntH s (m : Nat) m = min m 3 := by
      have := count_has s (m : Nat)
      rw [hcl] at this
      exact this
    refine RW.seq (fun σ => σ.get 4 = .d (.bool true)) (RW.of T_ok htb mixed (m5_ok f) (walkM5 f m _ hcnt e6 _ fun σ h => h)) fun σ7 h7 => ?_
    refine RW.of T_ok htb mixed (by kernel_rfl) ?_
    show see (σ7.get 4) (fun v => v = .d (.bool true))
    rw [h7]
    rfl
  · cases h
end Go.Proofs.Ytejejeginfjnjaa
