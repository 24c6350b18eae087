/- The other nodes of a piece, as the program tells them; the layer's own calls. -/
import Derived.Test.YtejejeginfjnjaaAiPlaceT
namespace Go.Proofs.Ytejejeginfjnjaa
open Go Go.AI Go.Shelf
set_option linter.unusedVariables false

theorem intsD_rowsZ (l : List Nat) : intsD l = rowsZ (l.map fun x : Nat => (x : Int)) := by simp [intsD, rowsZ, Function.comp_def]
theorem filter_cast (v : Int) (l : List Nat) : (l.map fun x : Nat => (x : Int)).filter (fun x => !(x == v)) = (l.filter fun x : Nat => !((x : Int) == v)).map fun x : Nat => (x : Int) := by
  rw [List.filter_map]; rfl

def S14 : List AV → Option AV
  | [.d (.str s), .d (.int .i64 n), .d (.int .i64 v)] => if s.length < 549755813888 then some (.d (.sl (intsD (othersI s n v)))) else none
  | _ => none

theorem S14_ok : SpecOk Try.prog 14 S14 := by
  obtain ⟨f10, hf10⟩ : ∃ f, f = S10o := ⟨_, rfl⟩
  obtain ⟨f28, hf28⟩ : ∃ f, f = S28 := ⟨_, rfl⟩
  have htb : TblOk Try.prog (tblAddO 10 f10 (tblAddO 28 f28 tbl0)) := by
    subst hf10 hf28
    exact tblAddO_ok S10o_ok (tblAddO_ok S28_ok (tbl0_ok _))
  refine specF_of T_ok htb mixed Try.func14 (by kernel_rfl) rfl (by kernel_rfl) ?_
  intro args r h
  unfold S14 at h
  split at h
  · rename_i s n v
    split at h
    · rename_i hs
      cases h
      refine ⟨by simp [Try.f14], rfl, rfl, ?_⟩
      have e10 : f10 [.d (.str s), .d (.int .i64 n)] [] = some (match clamp7 n with | 0 => (.nils, []) | m + 1 => (.win 0 0 (min 3 (m + 1)) (m + 1), [.arr (intsD (ordI s n)) 1 (m + 1)])) := by
        rw [hf10]
        simp only [S10o]
        rw [if_pos hs]
        cases clamp7 n <;> rfl
      have hlen := ordI_length s n
      have hle := clamp7_le n
      unfold othersI nodesI
      generalize clamp7 n = m at e10 hlen hle
      generalize ordI s n = l at e10 hlen
      cases m with
      | zero =>
        have hl0 := List.eq_nil_of_length_eq_zero hlen
        subst hl0
        have e28 : f28 [.nils, .fn (.func 27) [.ptr 0 0 0 0]] [.var [.d (.int .i64 v)] 0] = some (.nils, [.var [.d (.int .i64 v)] 0]) := by rw [hf28]; rfl
        clear hf10 hf28
        conv => whnf
        generalize hX : Tbl.o _ _ _ _ = X
        cases (hX.symm.trans e10 : X = some _)
        clear hX
        conv => whnf
        generalize hX : Tbl.o _ _ _ _ = X
        cases (hX.symm.trans e28 : X = some _)
        clear hX
        conv => whnf
        rfl
      | succ m =>
        have e28 : f28 [.win 0 0 (min 3 (m + 1)) (m + 1), .fn (.func 27) [.ptr 1 0 0 0]] [.arr (intsD l) 1 (m + 1), .var [.d (.int .i64 v)] 0] = some (.win 0 0 ((((l.map fun x : Nat => (x : Int)).take (min 3 (m + 1))).filter fun x => !(x == v)).length) (m + 1), [.arr (rowsZ (delR v (l.map fun x : Nat => (x : Int)) (min 3 (m + 1)))) 1 (m + 1), .var [.d (.int .i64 v)] 0]) := by
          rw [hf28]
          simp only [S28]
          rw [if_pos ⟨⟨trivial, Nat.succ_ne_zero _, intsD_all _⟩, by rw [intsD_length]; omega, by rw [intsD_length]; omega⟩, intsD_int]
        clear hf10 hf28
        conv => whnf
        generalize hX : Tbl.o _ _ _ _ = X
        cases (hX.symm.trans e10 : X = some _)
        clear hX
        conv => whnf
        generalize hX : Tbl.o _ _ _ _ = X
        cases (hX.symm.trans e28 : X = some _)
        clear hX
        conv => whnf
        refine (frz_win (off := 0) (n := 1) rfl Nat.one_pos).trans ?_
        have e1 : (l.map fun x : Nat => (x : Int)).take (min 3 (m + 1)) = (l.take 3).map fun x : Nat => (x : Int) := by
          rw [← List.map_take, ← hlen, Nat.min_comm, ← List.take_take, List.take_of_length_le (show (l.take 3).length ≤ l.length by simp; omega)]
        rw [List.drop_zero, delR, e1, filter_cast, intsD_rowsZ]
        refine congrArg (fun z => AV.d (D.sl z)) ?_
        rw [rowsZ, List.map_append]
        exact List.take_left' (by rw [List.length_map])
    · cases h
  · cases h

theorem nodes3 (s : List UInt8) {n : Int} (h : 3 ≤ clamp7 n) : ∃ a b c : Nat, nodesI s n = [a, b, c] ∧ a ≠ b ∧ b ≠ c ∧ a ≠ c := by
  have hnd : (nodesI s n).Nodup := by
    have h1 : (ordI s n).Nodup := (ordQ_perm (rkB s) (clamp7 n)).nodup_iff.2 List.nodup_range
    exact h1.sublist (List.take_sublist _ _)
  have hl : (nodesI s n).length = 3 := by rw [nodesI, List.length_take, ordI_length]; omega
  match hx : nodesI s n, hl with
  | [a, b, c], _ =>
    rw [hx] at hnd
    simp at hnd
    exact ⟨a, b, c, rfl, hnd.1.1, hnd.2, hnd.1.2⟩

def S6 : List AV → Option AV
  | [] => some (.d (.bool true))
  | _ => none

theorem facts6 (s : List UInt8) (hs : s.length < 549755813888) : ∃ (L X O : List Nat), L.length = 3 ∧ L.getD 0 0 ≠ L.getD 1 0 ∧ L.getD 1 0 ≠ L.getD 2 0 ∧ X.length = 2 ∧ O.length = 2 ∧
    S10 [.d (.str s), .d (.int .i64 5)] = some (.d (.sl (intsD L))) ∧ S10 [.d (.str s), .d (.int .i64 2)] = some (.d (.sl (intsD X))) ∧ S14 [.d (.str s), .d (.int .i64 5), .d (.int .i64 ((L.getD 0 0 : Nat) : Int))] = some (.d (.sl (intsD O))) := by
  obtain ⟨a, b, c, hx, hab, hbc, hac⟩ := nodes3 s (n := 5) (by decide)
  refine ⟨[a, b, c], nodesI s 2, othersI s 5 a, rfl, hab, hbc, ?_, ?_, ?_, ?_, ?_⟩
  · rw [nodesI, List.length_take, ordI_length]; rfl
  · rw [othersI, hx]
    have h2 : ((b : Int) == (a : Int)) = false := by simp; omega
    have h3 : ((c : Int) == (a : Int)) = false := by simp; omega
    simp [h2, h3]
  · simp only [S10]
    rw [if_pos hs, ← hx]
    rfl
  · simp only [S10]
    rw [if_pos hs]
    rfl
  · simp only [S14]
    rw [if_pos hs]
    rfl

noncomputable def b6 : Code := match Try.f6.body with | some (.seq _ (.seq _ (.seq c _))) => c | _ => .skip

theorem walk6 (f10 f14 : List AV → Option AV) (L X O : List Nat) (hL3 : L.length = 3) (hab : L.getD 0 0 ≠ L.getD 1 0) (hbc : L.getD 1 0 ≠ L.getD 2 0) (hX2 : X.length = 2) (hO2 : O.length = 2)
    (e10b : f10 [.d (.str [115]), .d (.int .i64 2)] = some (.d (.sl (intsD X)))) (e14 : f14 [.d (.str [115]), .d (.int .i64 5), .d (.int .i64 ((L.getD 0 0 : Nat) : Int))] = some (.d (.sl (intsD O))))
    (Q : Exit → AS → Prop) (hQ : ∀ σ, σ.get 0 = .d (.bool true) → Q .normal σ) : rwp T (tblAdd 10 f10 (tblAdd 14 f14 tbl0)) (strip (tblAdd 10 f10 (tblAdd 14 f14 tbl0)) b6) Q ⟨[(1, .d (.sl (intsD L)))], []⟩ := by
  repeat' (first | ((conv => whnf); intro _ _) | ((conv => whnf); refine And.intro ?_ ?_ <;> intro h <;> cases h) | ((conv => whnf); refine ldN8 rfl ?_ ?_) | ((conv => whnf); refine And.intro (?_ : Side _) ?_) | ((conv => whnf); generalize hX : Tbl.c _ _ _ = X; first | cases (hX.symm.trans e10b : X = some _) | cases (hX.symm.trans e14 : X = some _); clear hX) | fail)
  · exact ⟨Int.le_refl _, by rw [hL3]; decide⟩
  · exact ⟨by decide, by rw [hL3]; decide⟩
  · exact ⟨by decide, by rw [hL3]; decide⟩
  · exact ⟨by decide, by rw [hL3]; decide⟩
  · exact ⟨Int.le_refl _, by rw [hL3]; decide⟩
  · rename_i hc
    rw [intsD_length, hO2] at hc
    refine hQ _ ?_
    exact congrArg (fun z => AV.d (D.bool z)) hc
  · exfalso
    have hc := Eq.symm (show false = ((((intsD X).length : Nat) : Int) == 2) from ‹_›)
    rw [intsD_length, hX2] at hc
    cases hc
  · exfalso
    rename_i hc
    have hc := false_eq_not_iff'.1 hc
    have hc : ((L.getD 1 0 : Nat) : Int) = ((L.getD 2 0 : Nat) : Int) := eq_of_beq hc
    omega
  · exfalso
    rename_i hc
    have hc := false_eq_not_iff'.1 hc
    have hc : ((L.getD 0 0 : Nat) : Int) = ((L.getD 1 0 : Nat) : Int) := eq_of_beq hc
    omega
  · exfalso
    have hc := Eq.symm (show false = ((((intsD L).length : Nat) : Int) == 3) from ‹_›)
    rw [intsD_length, hL3] at hc
    cases hc

theorem b6_ok (f10 f14 : List AV → Option AV) : codeOk (tblAdd 10 f10 (tblAdd 14 f14 tbl0)) Try.f6.ntmps b6 = true := by kernel_rfl
noncomputable def a6 : Code := match Try.f6.body with | some (.seq a _) => a | _ => .skip
noncomputable def c6 : Code := match Try.f6.body with | some (.seq _ (.seq a _)) => a | _ => .skip
theorem body6 : Try.f6.body = some (.seq a6 (.seq c6 (.seq b6 .ret))) := rfl

theorem S6_ok : SpecOk Try.prog 6 S6 := by
  obtain ⟨f10, hf10⟩ : ∃ f, f = S10 := ⟨_, rfl⟩
  obtain ⟨f14, hf14⟩ : ∃ f, f = S14 := ⟨_, rfl⟩
  have htb : TblOk Try.prog (tblAdd 10 f10 (tblAdd 14 f14 tbl0)) := by
    subst hf10 hf14
    exact tblAdd_ok S10_ok (tblAdd_ok S14_ok (tbl0_ok _))
  obtain ⟨L, X, O, hL3, hab, hbc, hX2, hO2, e10a, e10b, e14⟩ := facts6 [115] (by decide)
  rw [← hf10] at e10a e10b
  rw [← hf14] at e14
  clear hf10 hf14
  intro args r h
  unfold S6 at h
  split at h
  · cases h
    refine ⟨enters_of Try.func6 (by kernel_rfl) rfl, fun i hi => absurd hi (Nat.not_lt_zero i), fn0_of' T_ok Try.func6 body6 (by simp) rfl ?_⟩
    refine RW.seq (fun σ => σ.objs = []) (RW.of T_ok htb mixed (by kernel_rfl) (by (conv => whnf))) fun σ0 h0 => ?_
    obtain ⟨tm, ob⟩ := σ0
    have h0 : ob = [] := h0
    subst h0
    refine RW.seq (fun σ => σ.get 1 = .d (.sl (intsD L)) ∧ σ.objs = []) (RW.of T_ok htb mixed (by kernel_rfl) ?_) fun σ1 h1 => ?_
    · conv => whnf
      generalize hX : Tbl.c _ _ _ = X
      cases (hX.symm.trans e10a : X = some _)
      exact ⟨rfl, rfl⟩
    obtain ⟨tm1, ob1⟩ := σ1
    obtain ⟨h1, h2⟩ := h1
    have h2 : ob1 = [] := h2
    subst h2
    refine RW.weak (Weak.at [(1, .d (.sl (intsD L)))] fun p hp => by rw [List.mem_singleton] at hp; subst hp; exact h1) ?_
    refine RW.seq (fun σ => σ.get 0 = .d (.bool true)) (RW.of T_ok htb mixed (b6_ok _ _) (walk6 f10 f14 L X O hL3 hab hbc hX2 hO2 e10b e14 _ fun σ h => h)) fun σ2 h2 => ?_
    refine RW.of T_ok htb mixed (by kernel_rfl) ?_
    show see (σ2.get 0) (fun v => v = .d (.bool true))
    rw [h2]
    rfl
  · cases h
end Go.Proofs.Ytejejeginfjnjaa
