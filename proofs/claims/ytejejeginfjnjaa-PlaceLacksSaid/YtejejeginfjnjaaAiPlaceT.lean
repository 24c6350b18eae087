/- The other nodes of a piece, as the program finds them. -/
import Derived.Test.YtejejeginfjnjaaAiPlaceS
namespace Go.Proofs.Ytejejeginfjnjaa
open Go Go.AI Go.Shelf
set_option linter.unusedVariables false

def S27 : List AV → List AObj → Option (AV × List AObj)
  | [.d (.int .i64 x), .ptr 0 0 0 0], [.var [.d (.int .i64 me)] 0] => some (.d (.bool (x == me)), [.var [.d (.int .i64 me)] 0])
  | _, _ => none

theorem S27_ok : SpecO Try.prog 27 S27 := by
  refine specO_of T_ok (tbl0_ok _) mixed Try.func27 (by kernel_rfl) rfl (by kernel_rfl) ?_
  intro args objs r objs' h
  unfold S27 at h
  split at h
  · rename_i x me
    cases h
    refine ⟨by simp [Try.f27], ?_⟩
    repeat' (first | ((conv => whnf); intro _ _) | fail)
    all_goals (conv => whnf)
    rename_i c hc
    rw [hc]
    exact ⟨rfl, rfl⟩
  · cases h

/-- The first place at which one stands, or -1. -/
def idxF (me : Int) (l : List Int) : Int := if lead (fun x => !(x == me)) l < l.length then (lead (fun x => !(x == me)) l : Int) else -1

def S39 : List AV → List AObj → Option (AV × List AObj)
  | [.nils, .fn (.func 27) [.ptr 0 0 0 0]], [.var [.d (.int .i64 me)] 0] => some (.d (.int .i64 (-1)), [.var [.d (.int .i64 me)] 0])
  | [.win 0 0 len g, .fn (.func 27) [.ptr 1 0 0 0]], [.arr rs 1 g', .var [.d (.int .i64 me)] 0] =>
    if (g = g' ∧ rs.all isI64 = true) ∧ len ≤ rs.length ∧ rs.length < 1000000000 then some (.d (.int .i64 (idxF me ((rs.map AI.intOf).take len))), [.arr rs 1 g', .var [.d (.int .i64 me)] 0]) else none
  | _, _ => none

theorem ldZo {P : Prop} {l : List Int} {pos : Nat} {k : List D → Prop} (h : Side (P ∧ pos < l.length)) (hk : k [.int .i64 (l.getD pos 0)]) :
    ∃ r, Side (P ∧ pos < (rowsZ l).length ∧ (rowsZ l).getD pos [] = r) ∧ k r := by
  have h2 := h.ok.2
  exact ⟨_, ⟨h.ok.1, by rw [rowsZ_length]; exact h2, by simp [rowsZ, List.getD_eq_getElem?_getD, h2]⟩, hk⟩

def st39 (l : List Int) (me : Int) (len g i : Nat) : AS := ⟨[(0, .win 0 0 len g), (1, .fn (.func 27) [.ptr 1 0 0 0]), (7, .d (.int .i64 len)), (8, .d (.int .i64 i))], [.arr (rowsZ l) 1 g, .var [.d (.int .i64 me)] 0]⟩

theorem S39_ok : SpecO Try.prog 39 S39 := by
  refine specO_of (tbl := tblAddO 27 S27 tbl0) T_ok (tblAddO_ok S27_ok (tbl0_ok _)) mixed Try.func39 (by kernel_rfl) rfl (by kernel_rfl) ?_
  intro args objs r objs' h
  unfold S39 at h
  split at h
  · rename_i me
    cases h
    refine ⟨by simp [Try.f39], ?_⟩
    conv => whnf
    refine ⟨fun k σ => k = 0 ∧ σ = ⟨[(7, .d (.int .i64 0)), (8, .d (.int .i64 0))], [.var [.d (.int .i64 me)] 0]⟩, 0, ⟨_, atL [(7, .d (.int .i64 0)), (8, .d (.int .i64 0))] ⟨rfl, rfl, trivial⟩, rfl, rfl⟩, ?_⟩
    rintro k σ ⟨rfl, rfl⟩
    repeat' (first | ((conv => whnf); intro _ _) | ((conv => whnf); refine And.intro ?_ ?_ <;> intro h <;> cases h) | fail)
    all_goals (conv => whnf)
    · exact absurd (show true = decide _ from ‹_›) (by decide)
    · exact ⟨rfl, rfl⟩
  · rename_i len g rs g' me
    split at h
    · rename_i hc
      obtain ⟨⟨rfl, h1⟩, h2, h3⟩ := hc
      have h1 := rowsZ_of h1
      generalize rs.map AI.intOf = l at h1 h
      subst h1
      cases h
      rw [rowsZ_length] at h2 h3
      refine ⟨by simp [Try.f39], ?_⟩
      conv => whnf
      have hll : (l.take len).length = len := by rw [List.length_take]; omega
      have hle := lead_le (fun x => !(x == me)) (l.take len)
      have hgt : ∀ i, i < len → (l.take len).getD i 0 = l.getD i 0 := by
        intro i hi
        simp only [List.getD_eq_getElem?_getD]
        rw [List.getElem?_take_of_lt hi]
      refine ⟨fun k σ => ∃ i, i ≤ lead (fun x => !(x == me)) (l.take len) ∧ k = len - i ∧ σ = st39 l me len g i, len, ⟨st39 l me len g 0, atL _ ⟨rfl, rfl, rfl, rfl, trivial⟩, 0, by omega, rfl, rfl⟩, ?_⟩
      rintro k σ ⟨i, hi, rfl, rfl⟩
      repeat' (first | ((conv => whnf); intro _ _) | ((conv => whnf); refine And.intro ?_ ?_ <;> intro h <;> cases h) | ((conv => whnf); refine ldZo ?_ ?_) | ((conv => whnf); refine And.intro (?_ : Side _) ?_) | fail)
      all_goals (conv => whnf)
      · have ha := of_decide_eq_true (Eq.symm (show true = decide _ from ‹_›))
        exact ⟨⟨rfl, rfl⟩, Int.natCast_nonneg _, ha⟩
      · have ha := of_decide_eq_true (Eq.symm (show true = decide _ from ‹_›))
        exact ⟨rfl, by omega⟩
      · rename_i ha
        have ha := of_decide_eq_true ha.symm
        have eqi : 0 + ((i : Nat) : Int).toNat + 0 = i := by omega
        rw [eqi]
        refine And.intro (fun hb => ?_) (fun hb => ?_)
        · conv => whnf
          have hs := lead_stop (fun x => !(x == me)) 0 (l.take len) i hi fun _ => by
            rw [hgt i (by omega), hb]; rfl
          refine ⟨congrArg (fun z => AV.d (D.int .i64 z)) ?_, rfl⟩
          unfold idxF
          rw [← hs, if_pos (by omega)]
        · conv => whnf
          have hs := lead_step (fun x => !(x == me)) 0 (l.take len) i hi (by omega) (by
            rw [hgt i (by omega), hb]; rfl)
          exact ⟨len - (i + 1), st39 l me len g (i + 1), by omega, atL _ ⟨rfl, rfl, rfl, congrArg (fun z => AV.d (D.int .i64 z)) (wi (m := i + 1) (by omega) (by omega)), trivial⟩, i + 1, hs, rfl, rfl⟩
      · rename_i ha
        have ha := of_decide_eq_false ha.symm
        refine ⟨congrArg (fun z => AV.d (D.int .i64 z)) ?_, rfl⟩
        unfold idxF
        rw [if_neg (by omega)]
    · cases h
  · cases h

/-- What is behind a deletion: the cells. -/
def delR (me : Int) (l : List Int) (len : Nat) : List Int := (l.take len).filter (fun x => !(x == me)) ++ (List.replicate (len - ((l.take len).filter fun x => !(x == me)).length) 0 ++ l.drop len)

def S28 : List AV → List AObj → Option (AV × List AObj)
  | [.nils, .fn (.func 27) [.ptr 0 0 0 0]], [.var [.d (.int .i64 me)] 0] => some (.nils, [.var [.d (.int .i64 me)] 0])
  | [.win 0 0 len g, .fn (.func 27) [.ptr 1 0 0 0]], [.arr rs 1 g', .var [.d (.int .i64 me)] 0] =>
    if (g = g' ∧ g ≠ 0 ∧ rs.all isI64 = true) ∧ len ≤ rs.length ∧ rs.length < 1000000000 then
      some (.win 0 0 (((rs.map AI.intOf).take len).filter fun x => !(x == me)).length g, [.arr (rowsZ (delR me (rs.map AI.intOf) len)) 1 g', .var [.d (.int .i64 me)] 0]) else none
  | _, _ => none

def st28 (R : List Int) (me : Int) (len g i j : Nat) : AS := ⟨[(0, .win 0 0 len g), (1, .fn (.func 27) [.ptr 1 0 0 0]), (5, .d (.int .i64 i)), (6, .d (.int .i64 j))], [.arr (rowsZ R) 1 g, .var [.d (.int .i64 me)] 0]⟩

theorem lead_take (me : Int) : ∀ (l : List Int), (l.take (lead (fun x => !(x == me)) l)).filter (fun x => !(x == me)) = l.take (lead (fun x => !(x == me)) l)
  | [] => rfl
  | x :: l => by
    have ih := lead_take me l
    simp only [lead]
    split
    · rename_i hx
      rw [List.take_succ_cons, List.filter_cons, if_pos hx, ih]
    · simp
theorem lead_get (me : Int) : ∀ (l : List Int), lead (fun x => !(x == me)) l < l.length → (l.getD (lead (fun x => !(x == me)) l) 0 == me) = true
  | [], h => absurd h (Nat.not_lt_zero _)
  | x :: l, h => by
    simp only [lead] at h ⊢
    split
    · rename_i hx
      rw [if_pos hx] at h
      simpa using lead_get me l (by simpa using h)
    · rename_i hx
      simpa using hx

theorem S28_ok : SpecO Try.prog 28 S28 := by
  obtain ⟨f39, hf39⟩ : ∃ f, f = S39 := ⟨_, rfl⟩
  have htb : TblOk Try.prog (tblAddO 39 f39 (tblAddO 27 S27 tbl0)) := by
    subst hf39
    exact tblAddO_ok S39_ok (tblAddO_ok S27_ok (tbl0_ok _))
  refine specO_of T_ok htb mixed Try.func28 (by kernel_rfl) rfl (by kernel_rfl) ?_
  intro args objs r objs' h
  unfold S28 at h
  split at h
  · rename_i me
    cases h
    refine ⟨by simp [Try.f28], ?_⟩
    have h39 : f39 [.nils, .fn (.func 27) [.ptr 0 0 0 0]] [.var [.d (.int .i64 me)] 0] = some (.d (.int .i64 (-1)), [.var [.d (.int .i64 me)] 0]) := by rw [hf39]; rfl
    clear hf39
    conv => whnf
    generalize hX : Tbl.o _ _ _ _ = X
    cases (hX.symm.trans h39 : X = some _)
    clear hX
    repeat' (first | ((conv => whnf); intro _ _) | ((conv => whnf); refine And.intro ?_ ?_ <;> intro h <;> cases h) | fail)
    all_goals (conv => whnf)
    · exact ⟨rfl, rfl⟩
    · exact absurd (show false = _ from ‹_›) (by decide)
  · rename_i len g rs g' me
    split at h
    · rename_i hc
      obtain ⟨⟨rfl, hg0, h1⟩, h2, h3⟩ := hc
      have h39 : f39 [.win 0 0 len g, .fn (.func 27) [.ptr 1 0 0 0]] [.arr rs 1 g, .var [.d (.int .i64 me)] 0] = some (.d (.int .i64 (idxF me ((rs.map AI.intOf).take len))), [.arr rs 1 g, .var [.d (.int .i64 me)] 0]) := by
        rw [hf39]
        simp only [S39]
        rw [if_pos ⟨⟨trivial, h1⟩, h2, h3⟩]
      clear hf39
      have h1 := rowsZ_of h1
      generalize rs.map AI.intOf = l at h1 h h39
      subst h1
      cases h
      rw [rowsZ_length] at h2 h3
      refine ⟨by simp [Try.f28], ?_⟩
      conv => whnf
      generalize hX : Tbl.o _ _ _ _ = X
      cases (hX.symm.trans h39 : X = some _)
      clear hX h39
      repeat' (first | ((conv => whnf); intro _ _) | ((conv => whnf); refine And.intro ?_ ?_ <;> intro h <;> cases h) | fail)
      all_goals (conv => whnf)
      · rename_i ha
        have ha := eq_of_beq ha.symm
        have hall : lead (fun x => !(x == me)) (l.take len) = (l.take len).length := by
          have := lead_le (fun x => !(x == me)) (l.take len)
          unfold idxF at ha
          split at ha
          · omega
          · omega
        have hf : (l.take len).filter (fun x => !(x == me)) = l.take len := List.filter_eq_self.2 ((lead_all _ _).1 hall)
        have hll : (l.take len).length = len := by rw [List.length_take]; omega
        have hd : delR me l len = l := by
          unfold delR
          rw [hf, hll, Nat.sub_self, List.replicate_zero, List.nil_append, List.take_append_drop]
        refine ⟨?_, ?_⟩
        · show AV.win 0 0 len g = AV.win 0 0 _ g
          rw [hf, hll]
        · show [AObj.arr (rowsZ l) 1 g, .var [.d (.int .i64 me)] 0] = _
          rw [hd]
      · rename_i ha
        have hll : (l.take len).length = len := by rw [List.length_take]; omega
        obtain ⟨K, hK⟩ : ∃ K, K = lead (fun x => !(x == me)) (l.take len) := ⟨_, rfl⟩
        have hKlt : K < len := by
          unfold idxF at ha
          split at ha
          · rename_i h; omega
          · simp at ha
        have hidx : idxF me (l.take len) = (K : Int) := by
          unfold idxF
          rw [if_pos (by omega), ← hK]
        rw [hidx]
        have hf0 : (l.take (K + 1)).filter (fun x => !(x == me)) = l.take K := by
          have e1 := lead_take me (l.take len)
          have e2 := lead_get me (l.take len) (by omega)
          rw [← hK, List.take_take, Nat.min_eq_left (by omega)] at e1
          rw [← hK] at e2
          have e3 : (l.take len).getD K 0 = l.getD K 0 := by
            simp only [List.getD_eq_getElem?_getD]
            rw [List.getElem?_take_of_lt hKlt]
          rw [e3] at e2
          have e4 : l.take (K + 1) = l.take K ++ [l.getD K 0] := by
            rw [List.take_add_one, List.getD_eq_getElem?_getD]
            simp [show K < l.length by omega]
          rw [e4, List.filter_append, e1, List.filter_cons, List.filter_nil, e2]
          simp
        refine ⟨fun k σ => ∃ (R : List Int) (i j : Nat), R.length = l.length ∧ R.take i = (l.take j).filter (fun x => !(x == me)) ∧ i = ((l.take j).filter fun x => !(x == me)).length ∧ i < j ∧ j ≤ len ∧ R.drop j = l.drop j ∧ k = len - j ∧ σ = st28 R me len g i j, len - (K + 1),
          ⟨st28 l me len g K (K + 1), atL _ ⟨rfl, rfl, rfl, congrArg (fun z => AV.d (D.int .i64 z)) (wi (m := K + 1) (by omega) (by omega)), trivial⟩, l, K, K + 1, rfl, hf0.symm, by rw [hf0, List.length_take]; omega, by omega, by omega, rfl, rfl, rfl⟩, ?_⟩
        rintro k σ ⟨R, i, j, r1, r2, r3, r4, r5, r6, rfl, rfl⟩
        have hRj : ∀ q, j ≤ q → R.getD q 0 = l.getD q 0 := by
          intro q hq
          have := congrArg (fun z => z.getD (q - j) 0) r6
          simp only [List.getD_eq_getElem?_getD, List.getElem?_drop] at this ⊢
          rw [show j + (q - j) = q by omega] at this
          exact this
        repeat' (first | ((conv => whnf); intro _ _) | ((conv => whnf); refine And.intro ?_ ?_ <;> intro h <;> cases h) | ((conv => whnf); refine ldZo ?_ ?_) | ((conv => whnf); refine And.intro (?_ : Side _) ?_) | fail)
        all_goals (conv => whnf)
        · rename_i ha
          have ha := of_decide_eq_true ha.symm
          exact ⟨⟨rfl, rfl⟩, Int.natCast_nonneg _, ha⟩
        · rename_i ha
          have ha := of_decide_eq_true ha.symm
          exact ⟨rfl, by omega⟩
        · exact ⟨⟨rfl, rfl⟩, Int.natCast_nonneg _, by omega⟩
        · exact ⟨rfl, by rw [rowsZ_length]; omega⟩
        · rename_i ha hb
          have ha := of_decide_eq_true ha.symm
          have eqj : 0 + ((j : Nat) : Int).toNat + 0 = j := by omega
          have eqi : 0 + ((i : Nat) : Int).toNat + 0 = i := by omega
          have hb := true_eq_not_iff'.1 hb
          rw [eqj, hRj j (Nat.le_refl _)] at hb
          have hfj : (l.take (j + 1)).filter (fun x => !(x == me)) = (l.take j).filter (fun x => !(x == me)) ++ [l.getD j 0] := by
            have e4 : l.take (j + 1) = l.take j ++ [l.getD j 0] := by
              rw [List.take_add_one, List.getD_eq_getElem?_getD]
              simp [show j < l.length by omega]
            rw [e4, List.filter_append, List.filter_cons, List.filter_nil, hb]
            rfl
          refine ⟨len - (j + 1), st28 (R.set i (l.getD j 0)) me len g (i + 1) (j + 1), by omega, WeakN.perm [0, 1] rfl rfl ?_ ⟨⟨rfl, rfl⟩, ⟨rfl, rfl⟩, ⟨rfl, congrArg (fun z => AV.d (D.int .i64 z)) (wi (m := i + 1) (by omega) (by omega))⟩, ⟨rfl, congrArg (fun z => AV.d (D.int .i64 z)) (wi (m := j + 1) (by omega) (by omega))⟩, trivial⟩,
            R.set i (l.getD j 0), i + 1, j + 1, by simpa using r1, ?_, by rw [hfj, List.length_append, ← r3]; rfl, by omega, by omega, ?_, rfl, rfl⟩
          · refine congrArg (fun z => [AObj.arr z 1 g, .var [.d (.int .i64 me)] 0]) ?_
            rw [eqi, eqj, hRj j (Nat.le_refl _)]
            simp [rowsZ, List.map_set]
          · have e5 : (R.set i (l.getD j 0)).take i = R.take i := by
              rw [List.take_set, List.set_eq_of_length_le (by rw [List.length_take]; omega)]
            rw [hfj, ← r2, List.take_add_one, e5]
            simp [show i < R.length by omega]
          · have := congrArg (List.drop 1) r6
            rw [List.drop_drop, List.drop_drop] at this
            rw [List.drop_set, if_pos (by omega)]
            exact this
        · rename_i ha hb
          have ha := of_decide_eq_true ha.symm
          have eqj : 0 + ((j : Nat) : Int).toNat + 0 = j := by omega
          have hb := false_eq_not_iff'.1 hb
          rw [eqj, hRj j (Nat.le_refl _)] at hb
          have hfj : (l.take (j + 1)).filter (fun x => !(x == me)) = (l.take j).filter (fun x => !(x == me)) := by
            have e4 : l.take (j + 1) = l.take j ++ [l.getD j 0] := by
              rw [List.take_add_one, List.getD_eq_getElem?_getD]
              simp [show j < l.length by omega]
            rw [e4, List.filter_append, List.filter_cons, List.filter_nil, hb]
            simp
          refine ⟨len - (j + 1), st28 R me len g i (j + 1), by omega, WeakN.perm [0, 1] rfl rfl rfl ⟨⟨rfl, rfl⟩, ⟨rfl, rfl⟩, ⟨rfl, rfl⟩, ⟨rfl, congrArg (fun z => AV.d (D.int .i64 z)) (wi (m := j + 1) (by omega) (by omega))⟩, trivial⟩,
            R, i, j + 1, r1, by rw [hfj, r2], by rw [hfj, ← r3], by omega, by omega, ?_, rfl, rfl⟩
          have := congrArg (List.drop 1) r6
          rw [List.drop_drop, List.drop_drop] at this
          exact this
        · exact ⟨⟨rfl, rfl, .inl hg0⟩, Int.natCast_nonneg _, by omega, by simp [AObj.rows, rowsZ]; omega⟩
        · exact ⟨⟨Nat.one_pos, rfl, rfl⟩, by rw [rowsZ_length]; omega⟩
        · refine ⟨⟨rfl, rfl, .inl hg0⟩, Int.le_refl _, Int.natCast_nonneg _, ?_⟩
          simp [AObj.rows, setR, rowsZ]
          omega
        · rename_i ha
          have ha := of_decide_eq_false ha.symm
          have hj : j = len := by omega
          subst hj
          refine ⟨?_, ?_⟩
          · exact congrArg (fun z => AV.win 0 0 z g) r3
          · refine congrArg (fun z => [AObj.arr z 1 g, .var [.d (.int .i64 me)] 0]) ?_
            show setR (rowsZ R) (0 + ((i : Nat) : Int).toNat) (List.replicate (((j : Nat) : Int).toNat - ((i : Nat) : Int).toNat) [D.int .i64 0]) = rowsZ (delR me l j)
            rw [show 0 + ((i : Nat) : Int).toNat = i by omega, show ((j : Nat) : Int).toNat - ((i : Nat) : Int).toNat = j - i by omega]
            unfold delR setR
            rw [← r2, List.length_replicate, show i + (j - i) = j by omega, ← r6]
            have : (R.take i).length = i := by rw [List.length_take]; omega
            rw [this]
            simp [rowsZ, List.map_take, List.map_drop]
    · cases h
  · cases h
end Go.Proofs.Ytejejeginfjnjaa
