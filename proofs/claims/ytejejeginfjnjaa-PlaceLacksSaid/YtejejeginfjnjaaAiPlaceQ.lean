/- The order of nodes for a piece, as the document makes it. -/
import Derived.Test.YtejejeginfjnjaaAiPlaceP
namespace Go.Proofs.Ytejejeginfjnjaa
open Go Go.AI Go.Shelf
set_option linter.unusedVariables false

def leB (a b : List UInt8) : Bool := Op.bytesLess a b || (a == b)
def firstK (r : Nat → List UInt8) (i : Nat) : List Nat → Nat
  | [] => 0
  | x :: l => if leB (r x) (r i) = true then firstK r i l + 1 else 0
def insQ (r : Nat → List UInt8) (i : Nat) (l : List Nat) : List Nat := l.take (firstK r i l) ++ i :: l.drop (firstK r i l)
def ordQ (r : Nat → List UInt8) : Nat → List Nat
  | 0 => []
  | i + 1 => insQ r i (ordQ r i)
theorem insQ_length (r : Nat → List UInt8) (i : Nat) (l : List Nat) : (insQ r i l).length = l.length + 1 := by
  simp [insQ]; omega
theorem ordQ_length (r : Nat → List UInt8) : ∀ i, (ordQ r i).length = i
  | 0 => rfl
  | i + 1 => by rw [ordQ, insQ_length, ordQ_length r i]
theorem firstK_le (r : Nat → List UInt8) (i : Nat) : ∀ l : List Nat, firstK r i l ≤ l.length
  | [] => Nat.le_refl _
  | x :: l => by
    have := firstK_le r i l
    simp only [firstK, List.length_cons]
    split <;> omega
theorem firstK_step (r : Nat → List UInt8) (i : Nat) : ∀ (l : List Nat) (k : Nat), k ≤ firstK r i l → k < l.length → leB (r (l.getD k 0)) (r i) = true → k + 1 ≤ firstK r i l
  | [], k, _, h, _ => absurd h (Nat.not_lt_zero k)
  | x :: l, 0, _, _, h => by
    have h : leB (r x) (r i) = true := h
    simp only [firstK, if_pos h]; omega
  | x :: l, k + 1, h1, h2, h3 => by
    simp only [firstK] at h1 ⊢
    split at h1
    · rename_i hx
      rw [if_pos hx]
      have := firstK_step r i l k (by omega) (by simpa using h2) (by simpa using h3)
      omega
    · omega
theorem firstK_stop (r : Nat → List UInt8) (i : Nat) : ∀ (l : List Nat) (k : Nat), k ≤ firstK r i l → (k < l.length → leB (r (l.getD k 0)) (r i) = false) → k = firstK r i l
  | [], k, h, _ => by have h : k ≤ 0 := h; show k = 0; omega
  | x :: l, 0, _, h => by
    have h : leB (r x) (r i) = false := h (by simp)
    simp [firstK, h]
  | x :: l, k + 1, h1, h2 => by
    simp only [firstK] at h1 ⊢
    split at h1
    · rename_i hx
      rw [if_pos hx]
      have := firstK_stop r i l k (by omega) (fun h => by simpa using h2 (by simpa using h))
      omega
    · omega

def intsD (l : List Nat) : List (List D) := l.map fun x : Nat => [.int .i64 (x : Int)]
def rkB (s : List UInt8) (i : Nat) : List UInt8 := rankP s (i : Int)
theorem intsD_length (l : List Nat) : (intsD l).length = l.length := by simp [intsD]
theorem ldI {P : Prop} {l : List Nat} {pos : Nat} {k : List D → Prop} (h : Side (P ∧ pos < l.length)) (hk : k [.int .i64 ((l.getD pos 0 : Nat) : Int)]) :
    ∃ r, Side (P ∧ pos < (intsD l).length ∧ (intsD l).getD pos [] = r) ∧ k r := by
  have h2 := h.ok.2
  exact ⟨_, ⟨h.ok.1, by rw [intsD_length]; exact h2, by simp [intsD, List.getD_eq_getElem?_getD, h2]⟩, hk⟩
theorem eR3 (l : List Nat) : ∀ r ∈ intsD l, r.length = ty3.size := by
  intro r hr
  simp [intsD] at hr
  obtain ⟨_, _, rfl⟩ := hr
  rfl
theorem intsD_part (l : List Nat) (lo hi : Nat) : ((intsD l).drop lo).take hi = intsD ((l.drop lo).take hi) := by simp [intsD, List.map_take, List.map_drop]
theorem intsD_app (a b : List Nat) : intsD a ++ intsD b = intsD (a ++ b) := by simp [intsD]
theorem apIN {R : List (List D)} {l : List Nat} (hR : R = intsD l) (hM : l.length ≤ 1000000) : Side ((∀ r ∈ R, r.length = ty3.size) ∧ 0 < ty3.size ∧ 0 < ty3.bytes ∧ R.length * ty3.bytes ≤ 140737488355328) := by
  subst hR
  exact ⟨eR3 _, Nat.one_pos, Nat.le_of_ble_eq_true rfl, by rw [intsD_length]; show l.length * 8 ≤ _; omega⟩
theorem apIW {off len g : Nat} {rs R : List (List D)} {l : List Nat} (h1 : off + len = rs.length) (hR : R = intsD l) (hg : g ≠ 0) (hM : len + l.length ≤ 1000000) :
    Side (off + len = rs.length ∧ (∀ r ∈ R, r.length = ty3.size) ∧ 0 < ty3.size ∧ 0 < ty3.bytes ∧ (g = g ∧ g ≠ 0) ∧ 1 = ty3.size ∧ (len + R.length) * ty3.bytes ≤ 140737488355328) := by
  subst hR
  exact ⟨h1, eR3 _, Nat.one_pos, Nat.le_of_ble_eq_true rfl, ⟨rfl, hg⟩, rfl, by rw [intsD_length]; show (len + l.length) * 8 ≤ _; omega⟩

theorem ins_rows {rr : Nat → List UInt8} {i q : Nat} {l : List Nat} (hq : q = firstK rr i l) {A B : List (List D)} (eA : A = intsD (l.take q)) (eB : B = intsD (l.drop q)) :
    List.drop 0 (List.drop 0 A ++ [[D.int .i64 (i : Int)]]) ++ B = intsD (insQ rr i l) := by
  subst hq
  rw [eA, eB, List.drop_zero, List.drop_zero]
  simp [insQ, intsD]
def tr9 : Tr := .one 0 (.one 1 (.one 2 (.one 4 (.one 5 (.one 7 (.one 8 (.alt 3 (.alt 6 (.one 9 (.one 10 (.one 11 (.done)))) (.alt 9 (.one 6 (.one 10 (.one 11 (.done)))) (.stop))) (.alt 9 (.one 3 (.one 6 (.one 10 (.one 11 (.done))))) (.stop)))))))))

def S9 : List AV → Option AV
  | [.d (.str s), .d (.int .i64 n)] => if s.length < 549755813888 then some (.d (.sl (intsD (ordQ (rkB s) (clamp7 n))))) else none
  | _ => none

def out9 (l : List Nat) : AV := match l with | [] => .nils | x :: l => .win 0 0 (l.length + 1) 3
def obs9 (l : List Nat) : List AObj := match l with | [] => [] | x :: l => [.arr (intsD (x :: l)) 1 3]
def st9 (s : List UInt8) (n : Int) (l : List Nat) (i : Nat) : AS := ⟨[(0, .d (.str s)), (1, .d (.int .i64 n)), (5, out9 l), (6, .d (.int .i64 i))], obs9 l⟩
def st9b (s : List UInt8) (n : Int) (l : List Nat) (i k : Nat) : AS := ⟨[(0, .d (.str s)), (1, .d (.int .i64 n)), (5, out9 l), (6, .d (.int .i64 i)), (7, .d (.int .i64 k))], obs9 l⟩

theorem codeOk9 (f25 : List AV → Option AV) : codeOk (tblD 8 tr9 (tblAdd 25 f25 tbl0)) Try.f9.ntmps (Try.f9.body.getD .skip) = true := by kernel_rfl

set_option maxHeartbeats 1000000 in
theorem S9_ok : SpecOk Try.prog 9 S9 := by
  obtain ⟨f25, hf25⟩ : ∃ f, f = S25 := ⟨_, rfl⟩
  have htb : TblOk Try.prog (tblD 8 tr9 (tblAdd 25 f25 tbl0)) := by
    subst hf25
    exact tblD_ok (tblAdd_ok S25_ok (tbl0_ok _))
  refine specF_of T_ok htb mixed Try.func9 (by kernel_rfl) rfl (by kernel_rfl) ?_
  intro args r h
  unfold S9 at h
  split at h
  · rename_i s n
    split at h
    · rename_i hs
      cases h
      refine ⟨by simp [Try.f9], rfl, rfl, ?_⟩
      have e25 : ∀ i : Int, f25 [.d (.str s), .d (.int .i64 i)] = some (.d (.str (rankP s i))) := by
        intro i
        rw [hf25]
        simp only [S25]
        rw [if_pos hs, rank_eq]
      obtain ⟨m, hm⟩ : ∃ m, m = clamp7 n := ⟨_, rfl⟩
      have hm7 : m ≤ 7 := by rw [hm]; unfold clamp7; omega
      obtain ⟨rr, hrr⟩ : ∃ rr : Nat → List UInt8, rr = rkB s := ⟨_, rfl⟩
      rw [← hm, ← hrr]
      conv => whnf
      refine ⟨fun k σ => ∃ i, i ≤ m ∧ k = m - i ∧ σ = st9 s n (ordQ rr i) i, m, ⟨st9 s n [] 0, atL _ ⟨rfl, rfl, rfl, rfl, trivial⟩, 0, by omega, rfl, rfl⟩, ?_⟩
      rintro k σ ⟨i, hi, rfl, rfl⟩
      have hl := ordQ_length rr i
      generalize hle : ordQ rr i = l at hl
      repeat' (first | ((conv => whnf); intro _ _) | ((conv => whnf); refine And.intro ?_ ?_ <;> intro h <;> cases h) | ((conv => whnf); refine And.intro (?_ : Side _) ?_) | fail)
      all_goals (conv => whnf)
      · rename_i hc1 hc2
        have hc1 := of_decide_eq_true hc1.symm
        have hc2 := of_decide_eq_true hc2.symm
        have hlt : i < m := by rw [hm]; unfold clamp7; omega
        have hfk := firstK_le rr i l
        refine ⟨fun k σ => ∃ q, q ≤ firstK rr i l ∧ k = firstK rr i l - q ∧ σ = st9b s n l i q, firstK rr i l, ⟨st9b s n l i 0, atL _ ⟨rfl, rfl, rfl, rfl, rfl, trivial⟩, 0, by omega, rfl, rfl⟩, ?_⟩
        rintro k σ ⟨q, hq, rfl, rfl⟩
        cases l with
        | nil =>
            repeat' (first | ((conv => whnf); intro _ _) | ((conv => whnf); refine And.intro ?_ ?_ <;> intro h <;> cases h) | ((conv => whnf); refine ldI ?_ ?_) | ((conv => whnf); refine And.intro (?_ : Side _) ?_) | ((conv => whnf); generalize hX : Tbl.c _ _ _ = X; cases (hX.symm.trans (e25 _) : X = some _); clear hX) | fail)
            all_goals (conv => whnf)
            · exact absurd (show true = decide _ from ‹_›) (by simp)
            · have hi0 : i = 0 := hl.symm
              have hq0 : q = 0 := by omega
              subst hi0 hq0
              refine ⟨⟨[(0, .d (.str s)), (1, .d (.int .i64 n)), (5, .win 0 0 1 3), (6, .d (.int .i64 0))], [.arr (intsD [0]) 1 3]⟩, ?_, ?_⟩
              · conv => whnf
                repeat' (first | ((conv => whnf); refine And.intro (?_ : Side _) ?_) | ((conv => whnf); refine Or.inl ?_) | ((conv => whnf); refine And.intro ?_ ?_) | fail)
                all_goals (conv => whnf)
                all_goals first
                  | trivial
                  | exact apIN (l := []) rfl (by simp)
                  | exact apIW (l := [0]) rfl rfl (by decide) (by simp)
                  | exact apIW (l := []) rfl rfl (by decide) (by simp)
                  | exact ⟨Int.le_refl _, Int.le_refl _, Int.le_refl _⟩
                  | exact WeakN.perm [0] rfl rfl rfl ⟨⟨rfl, rfl⟩, ⟨rfl, rfl⟩, ⟨rfl, rfl⟩, ⟨rfl, rfl⟩, trivial⟩
              · repeat' (first | ((conv => whnf); intro _ _) | ((conv => whnf); refine And.intro ?_ ?_ <;> intro h <;> cases h) | ((conv => whnf); refine And.intro (?_ : Side _) ?_) | fail)
                all_goals (conv => whnf)
                have e0 : ordQ rr 1 = [0] := rfl
                exact ⟨m - 1, st9 s n (ordQ rr 1) 1, by omega, WeakN.perm [0] rfl rfl rfl ⟨⟨rfl, rfl⟩, ⟨rfl, rfl⟩, ⟨rfl, rfl⟩, ⟨rfl, rfl⟩, trivial⟩, 1, by omega, rfl, rfl⟩
        | cons x l =>
            repeat' (first | ((conv => whnf); intro _ _) | ((conv => whnf); refine And.intro ?_ ?_ <;> intro h <;> cases h) | ((conv => whnf); refine ldI ?_ ?_) | ((conv => whnf); refine And.intro (?_ : Side _) ?_) | ((conv => whnf); generalize hX : Tbl.c _ _ _ = X; cases (hX.symm.trans (e25 _) : X = some _); clear hX) | fail)
            all_goals (conv => whnf)
            · have ha := of_decide_eq_true (Eq.symm (show true = decide _ from ‹_›))
              exact ⟨⟨rfl, rfl⟩, Int.natCast_nonneg _, ha⟩
            · have ha := of_decide_eq_true (Eq.symm (show true = decide _ from ‹_›))
              exact ⟨rfl, by rw [List.length_cons]; omega⟩
            · rename_i ha hb
              have ha := of_decide_eq_true ha.symm
              have eq0 : 0 + ((q : Nat) : Int).toNat + 0 = q := by omega
              rw [eq0] at hb
              have hb : leB (rr ((x :: l).getD q 0)) (rr i) = true := by rw [hrr]; exact hb.symm
              have hst := firstK_step rr i (x :: l) q hq (by rw [List.length_cons]; omega) hb
              exact ⟨firstK rr i (x :: l) - (q + 1), st9b s n (x :: l) i (q + 1), by omega, WeakN.perm [0] rfl rfl rfl ⟨⟨rfl, rfl⟩, ⟨rfl, rfl⟩, ⟨rfl, rfl⟩, ⟨rfl, rfl⟩, ⟨rfl, congrArg (fun z => AV.d (D.int .i64 z)) (wi (m := q + 1) (by omega) (by omega))⟩, trivial⟩, q + 1, hst, rfl, rfl⟩
            all_goals
              have hqk : q = firstK rr i (x :: l) := by
                refine firstK_stop rr i (x :: l) q hq fun hlt => ?_
                first
                  | (rename_i ha hb
                     have eq0 : 0 + ((q : Nat) : Int).toNat + 0 = q := by omega
                     rw [eq0] at hb
                     rw [hrr]; exact hb.symm)
                  | (rename_i ha
                     have ha := of_decide_eq_false ha.symm
                     rw [List.length_cons] at hlt
                     omega)
              have hql : q ≤ (x :: l).length := by rw [hqk]; exact firstK_le _ _ _
              have hll : (x :: l).length = i := hl
              have hl1 : l.length + 1 = i := hl
              have eA : List.take (((q : Nat) : Int).toNat - Int.toNat 0) (List.drop (0 + Int.toNat 0) (intsD (x :: l))) = intsD ((x :: l).take q) := by
                show List.take q (intsD (x :: l)) = _
                simp [intsD, List.map_take]
              have eB : List.take ((((l.length + 1 : Nat)) : Int).toNat - ((q : Nat) : Int).toNat) (List.drop (0 + ((q : Nat) : Int).toNat) (intsD (x :: l))) = intsD ((x :: l).drop q) := by
                rw [Nat.zero_add]
                show List.take (l.length + 1 - q) (List.drop q (intsD (x :: l))) = _
                rw [List.take_of_length_le (by rw [List.length_drop, intsD_length, hll]; omega)]
                simp [intsD, List.map_drop]
              have hAl : (intsD ((x :: l).take q)).length = q := by rw [intsD_length, List.length_take]; omega
              have hBl : (intsD ((x :: l).drop q)).length = i - q := by rw [intsD_length, List.length_drop, hll]
              have hi6 : i < 7 := by omega
              refine ⟨⟨[(0, .d (.str s)), (1, .d (.int .i64 n)), (5, .win 1 0 (i + 1) 3), (6, .d (.int .i64 i))], [.arr (intsD (x :: l)) 1 3, .arr (intsD (insQ rr i (x :: l))) 1 3]⟩, ?_, ?_⟩
              · conv => whnf
                repeat' (first | ((conv => whnf); refine And.intro (?_ : Side _) ?_) | ((conv => whnf); refine Or.inl ?_) | ((conv => whnf); refine And.intro ?_ ?_) | fail)
                all_goals (conv => whnf)
                all_goals first
                  | trivial
                  | exact apIN eA (by rw [List.length_take]; omega)
                  | exact apIW (l := [i]) (Nat.zero_add _) rfl (by decide) (by rw [eA, hAl]; show q + 1 ≤ _; omega)
                  | exact apIW (l := (x :: l).drop q) (by rw [eA, List.length_append, List.drop_zero]; omega) eB (by decide) (by rw [eA, hAl, List.length_drop, hll]; show q + 1 + (i - q) ≤ _; omega)
                  | exact ⟨⟨rfl, rfl, .inl (by decide)⟩, Int.le_refl _, Int.natCast_nonneg _, by simp [AObj.rows, intsD]; omega⟩
                  | exact ⟨⟨rfl, rfl, .inl (by decide)⟩, Int.natCast_nonneg _, by omega, by simp [AObj.rows, intsD]⟩
                  | skip
                all_goals refine WeakN.perm [0, 1] rfl rfl (congrArg (fun z => [AObj.arr (intsD (x :: l)) 1 3, AObj.arr z 1 3]) (ins_rows hqk eA eB)) ⟨⟨rfl, rfl⟩, ⟨rfl, rfl⟩, ⟨rfl, congrArg (fun z => AV.win 1 0 z 3) ?_⟩, ⟨rfl, rfl⟩, trivial⟩
                all_goals
                  rw [eA, eB, hAl, hBl]
                  show q + 1 + (i - q) = i + 1
                  omega
              · repeat' (first | ((conv => whnf); intro _ _) | ((conv => whnf); refine And.intro ?_ ?_ <;> intro h <;> cases h) | ((conv => whnf); refine And.intro (?_ : Side _) ?_) | fail)
                all_goals (conv => whnf)
                refine ⟨m - (i + 1), st9 s n (ordQ rr (i + 1)) (i + 1), by omega, ?_, i + 1, by omega, rfl, rfl⟩
                have hne : (insQ rr i (x :: l)).length = i + 1 := by rw [insQ_length, hll]
                rw [ordQ, hle]
                generalize insQ rr i (x :: l) = L2 at hne
                cases L2 with
                | nil => simp at hne
                | cons y L2 =>
                  have hne : L2.length + 1 = i + 1 := hne
                  exact WeakN.perm [1] rfl rfl rfl ⟨⟨rfl, rfl⟩, ⟨rfl, rfl⟩, ⟨rfl, congrArg (fun z => AV.win 0 0 z 3) hne.symm⟩, ⟨rfl, congrArg (fun z => AV.d (D.int .i64 z)) (wi (m := i + 1) (by omega) (by omega))⟩, trivial⟩
      all_goals
        have him : i = m := by
          first
            | (rename_i hc1 hc2
               have hc1 := of_decide_eq_true hc1.symm
               have hc2 := of_decide_eq_false hc2.symm
               omega)
            | (rename_i hc1
               have hc1 := of_decide_eq_false hc1.symm
               rw [hm] at hi ⊢; unfold clamp7 at hi ⊢; omega)
        subst him
        rw [hle]
        clear hle
        cases l with
        | nil =>
          conv => whnf
          rfl
        | cons x l =>
          conv => whnf
          have hl1 : l.length + 1 = i := hl
          refine (frz_win (off := 0) (n := 1) rfl Nat.one_pos).trans ?_
          rw [List.drop_zero, List.take_of_length_le (by rw [intsD_length]; exact Nat.le_refl _)]
    · cases h
  · cases h
end Go.Proofs.Ytejejeginfjnjaa
