/- The order of nodes for a piece, as the program makes it. -/
import Derived.Test.YtejejeginfjnjaaAiPlaceO
import Derived.Test.YtejejeginfjnjaaAiZ
namespace Go.Proofs.Ytejejeginfjnjaa
open Go Go.AI Go.Shelf
set_option linter.unusedVariables false

def rk (s : List UInt8) (i : Nat) : Rk := (Fin.ofNat 8 i, rankP s i)
def rkL (s : List UInt8) (m : Nat) : List Rk := (List.range m).map (rk s)
def rowsR (s : List UInt8) (m : Nat) : List (List D) := (rkL s m).map encRk
theorem rkL_length (s : List UInt8) (m : Nat) : (rkL s m).length = m := by simp [rkL]
theorem rowsR_length (s : List UInt8) (m : Nat) : (rowsR s m).length = m := by simp [rowsR, rkL]
theorem rowsR_succ (s : List UInt8) (m : Nat) : rowsR s (m + 1) = rowsR s m ++ [encRk (rk s m)] := by simp [rowsR, rkL, List.range_succ]
def ordL (s : List UInt8) (m : Nat) : List Rk := sortOf cfRk (rkL s m)
theorem ordL_length (s : List UInt8) (m : Nat) : (ordL s m).length = m := by rw [ordL, sortOf_length, rkL_length]
def nodesD (l : List Rk) : List (List D) := l.map fun x => [.int .i64 (x.1.val : Int)]
def clamp7 (n : Int) : Nat := (min (max n 0) 7).toNat

def S8 : List AV → Option AV
  | [.d (.str s), .d (.int .i64 n)] => if s.length < 549755813888 then some (.d (.sl (nodesD (ordL s (clamp7 n))))) else none
  | _ => none

theorem rk_row (s : List UInt8) {i : Nat} (h : i < 8) : encRk (rk s i) = [.int .i64 (i : Int), .str (rankP s i)] := by
  simp [encRk, rk]
  omega
theorem ap39N {R : List (List D)} {a : Int} {b : List UInt8} (hR : R = [[.int .i64 a, .str b]]) : Side ((∀ r ∈ R, r.length = ty39.size) ∧ 0 < ty39.size ∧ 0 < ty39.bytes ∧ R.length * ty39.bytes ≤ 140737488355328) := by
  subst hR
  exact ⟨fun r hr => by rw [List.mem_singleton] at hr; subst hr; rfl, Nat.le_of_ble_eq_true rfl, Nat.le_of_ble_eq_true rfl, Nat.le_of_ble_eq_true rfl⟩
theorem ap39W {off len g : Nat} {rs R : List (List D)} {a : Int} {b : List UInt8} (h1 : off + len = rs.length) (hR : R = [[.int .i64 a, .str b]]) (hg : g ≠ 0) (hM : len ≤ 1000000) :
    Side (off + len = rs.length ∧ (∀ r ∈ R, r.length = ty39.size) ∧ 0 < ty39.size ∧ 0 < ty39.bytes ∧ (g = g ∧ g ≠ 0) ∧ 2 = ty39.size ∧ (len + R.length) * ty39.bytes ≤ 140737488355328) := by
  subst hR
  exact ⟨h1, fun r hr => by rw [List.mem_singleton] at hr; subst hr; rfl, Nat.le_of_ble_eq_true rfl, Nat.le_of_ble_eq_true rfl, ⟨rfl, hg⟩, rfl, by show (len + 1) * 24 ≤ _; omega⟩
theorem s23_at {f23 : List AV → List AObj → Option (AV × List AObj)} (hf : f23 = S23) (l : List Rk) (g : Nat) (h0 : 0 < l.length) (hs : l.length < 1000000000) :
    f23 [.win 0 0 l.length g, .fn (.func 24) []] [.arr (l.map encRk) 2 g] = some (.tup [], [.arr ((sortOf cfRk l).map encRk) 2 g]) := by
  rw [hf]
  have e : (l.map encRk).map decRk = l := by
    rw [List.map_map]
    conv => rhs; rw [← List.map_id l]
    exact List.map_congr_left fun x _ => decRk_enc x
  simp only [S23, sortK]
  rw [if_pos ⟨⟨rfl, rfl, rfl⟩, ⟨rfl, rfl, by rw [List.length_map]⟩, h0, hs, by rw [e]⟩, e]
theorem ldRk {P : Prop} {L : List Rk} {pos : Nat} {k : List D → Prop} (h : Side (P ∧ pos < L.length)) (hk : k (encRk (L.getD pos (0, [])))) :
    ∃ r, Side (P ∧ pos < (L.map encRk).length ∧ (L.map encRk).getD pos [] = r) ∧ k r := by
  have h2 := h.ok.2
  exact ⟨_, ⟨h.ok.1, by rw [List.length_map]; exact h2, by simp [List.getD_eq_getElem?_getD, h2]⟩, hk⟩

theorem ap3N {R : List (List D)} {a : Int} (hR : R = [[.int .i64 a]]) : Side ((∀ r ∈ R, r.length = ty3.size) ∧ 0 < ty3.size ∧ 0 < ty3.bytes ∧ R.length * ty3.bytes ≤ 140737488355328) := by
  subst hR
  exact ⟨fun r hr => by rw [List.mem_singleton] at hr; subst hr; rfl, Nat.le_of_ble_eq_true rfl, Nat.le_of_ble_eq_true rfl, Nat.le_of_ble_eq_true rfl⟩
theorem ap3W {off len g : Nat} {rs R : List (List D)} {a : Int} (h1 : off + len = rs.length) (hR : R = [[.int .i64 a]]) (hg : g ≠ 0) (hM : len ≤ 1000000) :
    Side (off + len = rs.length ∧ (∀ r ∈ R, r.length = ty3.size) ∧ 0 < ty3.size ∧ 0 < ty3.bytes ∧ (g = g ∧ g ≠ 0) ∧ 1 = ty3.size ∧ (len + R.length) * ty3.bytes ≤ 140737488355328) := by
  subst hR
  exact ⟨h1, fun r hr => by rw [List.mem_singleton] at hr; subst hr; rfl, Nat.le_of_ble_eq_true rfl, Nat.le_of_ble_eq_true rfl, ⟨rfl, hg⟩, rfl, by show (len + 1) * 8 ≤ _; omega⟩
theorem nodes_succ {L : List Rk} {q p : Nat} (hq : q < L.length) (hp : p = q) {rs : List (List D)} (hrs : rs = nodesD (L.take q)) : List.drop 0 rs ++ [[D.int .i64 ((L.getD p (0, [])).1.val : Int)]] = nodesD (L.take (q + 1)) := by
  subst hp
  have e : L.take (p + 1) = L.take p ++ [L.getD p (0, [])] := by
    rw [List.take_add_one, List.getD_eq_getElem?_getD]
    simp [hq]
  rw [hrs, e, List.drop_zero, nodesD, nodesD, List.map_append]
  rfl
def S8o : List AV → List AObj → Option (AV × List AObj)
  | [.d (.str s), .d (.int .i64 n)], [] => if s.length < 549755813888 then some (match clamp7 n with | 0 => (.nils, []) | m + 1 => (.win 0 0 (m + 1) (m + 1), [.arr (nodesD (ordL s (m + 1))) 1 (m + 1)])) else none
  | _, _ => none

def st8 (s : List UInt8) (m i : Nat) : AS := ⟨[(0, .d (.str s)), (5, match i with | 0 => .nils | i + 1 => .win 0 0 (i + 1) (i + 1)), (12, .d (.int .i64 m)), (13, .d (.int .i64 i))], match i with | 0 => [] | i + 1 => [.arr (rowsR s (i + 1)) 2 (i + 1)]⟩
def st8b (L : List Rk) (m i : Nat) : AS := ⟨[(7, match i with | 0 => .nils | i + 1 => .win 1 0 (i + 1) (i + 1)), (27, .win 0 0 m m), (28, .d (.int .i64 m)), (29, .d (.int .i64 i))], .arr (L.map encRk) 2 m :: (match i with | 0 => [] | i + 1 => [.arr (nodesD (L.take (i + 1))) 1 (i + 1)])⟩

set_option maxHeartbeats 1000000 in
theorem S8o_ok : SpecO Try.prog 8 S8o := by
  obtain ⟨f22, hf22⟩ : ∃ f, f = S22 := ⟨_, rfl⟩
  obtain ⟨f23, hf23⟩ : ∃ f, f = S23 := ⟨_, rfl⟩
  have htb : TblOk Try.prog (tblAddO 23 f23 (tblAdd 22 f22 tbl0)) := by
    subst hf22 hf23
    exact tblAddO_ok S23_ok (tblAdd_ok S22_ok (tbl0_ok _))
  refine specO_of T_ok htb mixed Try.func8 (by kernel_rfl) rfl (by kernel_rfl) ?_
  intro args objs r objs' h
  unfold S8o at h
  split at h
  · rename_i s n
    split at h
    · rename_i hs
      have h := Option.some.inj h
      refine ⟨by simp [Try.f8], ?_⟩
      have e22 : ∀ i : Nat, f22 [.d (.str s), .d (.int .i64 i)] = some (.d (.str (rankP s i))) := by
        intro i
        rw [hf22]
        simp only [S22]
        rw [if_pos hs]
      obtain ⟨m, hm⟩ : ∃ m, m = clamp7 n := ⟨_, rfl⟩
      have hm7 : m ≤ 7 := by rw [hm]; unfold clamp7; omega
      have hmn : (if (7 : Int) < if (0 : Int) > n then 0 else n then 7 else if (0 : Int) > n then 0 else n) = (m : Int) := by
        rw [hm]; unfold clamp7
        simp only [gt_iff_lt]
        repeat' split
        all_goals omega
      rw [← hm] at h
      conv => whnf
      refine ⟨fun k σ => ∃ i, i ≤ m ∧ k = m - i ∧ σ = st8 s m i, m, ⟨st8 s m 0, atL _ ⟨rfl, rfl, congrArg (fun z => AV.d (D.int .i64 z)) hmn, rfl, trivial⟩, 0, by omega, rfl, rfl⟩, ?_⟩
      rintro k σ ⟨i, hi, rfl, rfl⟩
      cases i with
      | zero =>
        repeat' (first | ((conv => whnf); intro _ _) | ((conv => whnf); refine And.intro ?_ ?_ <;> intro h <;> cases h) | ((conv => whnf); refine Or.inl ?_) | ((conv => whnf); refine And.intro (?_ : Side _) ?_) | ((conv => whnf); generalize hX : Tbl.c _ _ _ = X; cases (hX.symm.trans (e22 0) : X = some _); clear hX) | fail)
        all_goals (conv => whnf)
        · exact ap39N rfl
        · rename_i ha
          have ha := of_decide_eq_true ha.symm
          refine ⟨m - 1, st8 s m 1, by omega, WeakN.perm [0] rfl rfl ?_ ⟨⟨rfl, rfl⟩, ⟨rfl, rfl⟩, ⟨rfl, rfl⟩, ⟨rfl, rfl⟩, trivial⟩, 1, by omega, rfl, rfl⟩
          exact congrArg (fun z => [AObj.arr z 2 1]) (by rw [rowsR_succ]; exact congrArg (fun z => [z]) (rk_row s (by omega)).symm)
        · rename_i ha
          have ha := of_decide_eq_false ha.symm
          have h0 : m = 0 := by omega
          subst h0
          have e23 : f23 [.nils, .fn (.func 24) []] [] = some (.tup [], []) := by
            rw [hf23]
            simp [S23, sortK]
          generalize hX : Tbl.o _ _ _ _ = X
          cases (hX.symm.trans e23 : X = some _)
          clear hX
          conv => whnf
          refine ⟨fun k σ => k = 0 ∧ σ = ⟨[(7, .nils), (28, .d (.int .i64 0)), (29, .d (.int .i64 0))], []⟩, 0, ⟨_, atL [(7, .nils), (28, .d (.int .i64 0)), (29, .d (.int .i64 0))] ⟨rfl, rfl, rfl, trivial⟩, rfl, rfl⟩, ?_⟩
          rintro k σ ⟨rfl, rfl⟩
          repeat' (first | ((conv => whnf); intro _ _) | ((conv => whnf); refine And.intro ?_ ?_ <;> intro h <;> cases h) | fail)
          all_goals (conv => whnf)
          · exact absurd (show true = decide _ from ‹_›) (by decide)
          · cases h
            exact ⟨rfl, rfl⟩
      | succ i =>
        repeat' (first | ((conv => whnf); intro _ _) | ((conv => whnf); refine And.intro ?_ ?_ <;> intro h <;> cases h) | ((conv => whnf); refine Or.inl ?_) | ((conv => whnf); refine And.intro (?_ : Side _) ?_) | ((conv => whnf); generalize hX : Tbl.c _ _ _ = X; cases (hX.symm.trans (e22 (i + 1)) : X = some _); clear hX) | fail)
        all_goals (conv => whnf)
        · exact ap39W (by rw [rowsR_length]; omega) rfl (by omega) (by rename_i ha; have ha := of_decide_eq_true ha.symm; omega)
        · rename_i ha
          have ha := of_decide_eq_true ha.symm
          refine ⟨m - (i + 2), st8 s m (i + 2), by omega, WeakN.perm [0] rfl rfl ?_ ⟨⟨rfl, rfl⟩, ⟨rfl, rfl⟩, ⟨rfl, rfl⟩, ⟨rfl, congrArg (fun z => AV.d (D.int .i64 z)) (wi (m := i + 2) (by omega) (by omega))⟩, trivial⟩, i + 2, by omega, rfl, rfl⟩
          exact congrArg (fun z => [AObj.arr z 2 (i + 2)]) (by rw [rowsR_succ s (i + 1)]; exact congrArg (fun z => rowsR s (i + 1) ++ [z]) (rk_row s (by omega)).symm)
        · rename_i ha
          have ha := of_decide_eq_false ha.symm
          have h0 : m = i + 1 := by omega
          subst h0
          have e23 := s23_at hf23 (rkL s (i + 1)) (i + 1) (by rw [rkL_length]; omega) (by rw [rkL_length]; omega)
          rw [rkL_length] at e23
          generalize hX : Tbl.o _ _ _ _ = X
          cases (hX.symm.trans e23 : X = some _)
          clear hX e23
          have hLl : (sortOf cfRk (rkL s (i + 1))).length = i + 1 := ordL_length s (i + 1)
          cases h
          unfold ordL
          generalize sortOf cfRk (rkL s (i + 1)) = L at hLl ⊢
          clear hf22 hf23 e22 hmn hm
          conv => whnf
          refine ⟨fun k σ => ∃ q, q ≤ i + 1 ∧ k = i + 1 - q ∧ σ = st8b L (i + 1) q, i + 1, ⟨st8b L (i + 1) 0, WeakN.perm [0] rfl rfl rfl ⟨⟨rfl, rfl⟩, ⟨rfl, rfl⟩, ⟨rfl, rfl⟩, ⟨rfl, rfl⟩, trivial⟩, 0, by omega, rfl, rfl⟩, ?_⟩
          rintro k σ ⟨q, hq, rfl, rfl⟩
          cases q with
          | zero =>
            repeat' (first | ((conv => whnf); intro _ _) | ((conv => whnf); refine And.intro ?_ ?_ <;> intro h <;> cases h) | ((conv => whnf); refine Or.inl ?_) | ((conv => whnf); refine ldRk ?_ ?_) | ((conv => whnf); refine And.intro (?_ : Side _) ?_) | fail)
            all_goals (conv => whnf)
            · exact ⟨⟨rfl, rfl⟩, Int.le_refl _, Int.ofNat_lt.2 (Nat.succ_pos _)⟩
            · exact ⟨rfl, by rw [hLl]; exact Nat.succ_pos _⟩
            · exact ap3N rfl
            · refine ⟨i + 1 - 1, st8b L (i + 1) 1, by omega, WeakN.perm [0, 2] rfl rfl ?_ ⟨⟨rfl, rfl⟩, ⟨rfl, rfl⟩, ⟨rfl, rfl⟩, ⟨rfl, rfl⟩, trivial⟩, 1, by omega, rfl, rfl⟩
              exact congrArg (fun z => [AObj.arr (L.map encRk) 2 (i + 1), .arr z 1 1]) (nodes_succ (q := 0) (by omega) rfl (rs := []) rfl)
            · have hf := of_decide_eq_false (Eq.symm (show false = decide _ from ‹_›))
              exact absurd (Int.ofNat_lt.2 (Nat.succ_pos _)) hf
          | succ q =>
            repeat' (first | ((conv => whnf); intro _ _) | ((conv => whnf); refine And.intro ?_ ?_ <;> intro h <;> cases h) | ((conv => whnf); refine Or.inl ?_) | ((conv => whnf); refine ldRk ?_ ?_) | ((conv => whnf); refine And.intro (?_ : Side _) ?_) | fail)
            all_goals (conv => whnf)
            · have ha := of_decide_eq_true (Eq.symm (show true = decide _ from ‹_›))
              exact ⟨⟨rfl, rfl⟩, Int.natCast_nonneg _, ha⟩
            · have ha := of_decide_eq_true (Eq.symm (show true = decide _ from ‹_›))
              exact ⟨rfl, by rw [hLl]; show 0 + (q + 1) < i + 1; omega⟩
            · exact ap3W (by rw [nodesD, List.length_map, List.length_take, hLl]; omega) rfl (by omega) (by omega)
            · have ha := of_decide_eq_true (Eq.symm (show true = decide _ from ‹_›))
              refine ⟨i + 1 - (q + 2), st8b L (i + 1) (q + 2), by omega, WeakN.perm [0, 1] rfl rfl ?_ ⟨⟨rfl, rfl⟩, ⟨rfl, rfl⟩, ⟨rfl, rfl⟩, ⟨rfl, congrArg (fun z => AV.d (D.int .i64 z)) (wi (m := q + 2) (by omega) (by omega))⟩, trivial⟩, q + 2, by omega, rfl, rfl⟩
              exact congrArg (fun z => [AObj.arr (L.map encRk) 2 (i + 1), .arr z 1 (q + 2)]) (nodes_succ (q := q + 1) (by omega) (by omega) (rs := nodesD (L.take (q + 1))) rfl)
            · have ha := of_decide_eq_false (Eq.symm (show false = decide _ from ‹_›))
              have hqi : q = i := by omega
              subst hqi
              have et : L.take (q + 1) = L := List.take_of_length_le (by omega)
              exact ⟨rfl, congrArg (fun z => [AObj.arr (nodesD z) 1 (q + 1)]) et⟩
    · cases h
  · cases h

theorem S8_ok : SpecOk Try.prog 8 S8 := by
  refine S8o_ok.freeze fun args r h => ?_
  unfold S8 at h
  split at h
  · rename_i s n
    split at h
    · rename_i hs
      cases h
      refine ⟨rfl, ?_⟩
      simp only [S8o]
      rw [if_pos hs]
      cases clamp7 n with
      | zero => exact ⟨_, _, rfl, by simp [frz, frz2, frz1, nodesD, ordL, rkL, sortOf], rfl⟩
      | succ m =>
        refine ⟨_, _, rfl, ?_, rfl⟩
        refine (frz_win (off := 0) (n := 1) rfl Nat.one_pos).trans ?_
        rw [List.drop_zero, List.take_of_length_le (by rw [nodesD, List.length_map, ordL_length]; exact Nat.le_refl _)]
    · cases h
  · cases h
end Go.Proofs.Ytejejeginfjnjaa
