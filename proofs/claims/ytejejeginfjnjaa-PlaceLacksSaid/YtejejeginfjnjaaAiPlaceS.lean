/- The nodes of a piece, on both sides; whether one is among some; whether two lists are one. -/
import Derived.Test.YtejejeginfjnjaaAiPlaceR
namespace Go.Proofs.Ytejejeginfjnjaa
open Go Go.AI Go.Shelf
set_option linter.unusedVariables false

theorem clamp7_le (n : Int) : clamp7 n ≤ 7 := by unfold clamp7; omega
def ordI (s : List UInt8) (n : Int) : List Nat := ordQ (rkB s) (clamp7 n)
theorem ordI_length (s : List UInt8) (n : Int) : (ordI s n).length = clamp7 n := ordQ_length _ _
theorem ordI_nodes (s : List UInt8) (n : Int) : nodesD (ordL s (clamp7 n)) = intsD (ordI s n) := nodes_eq s (by have := clamp7_le n; omega)

def S10o : List AV → List AObj → Option (AV × List AObj)
  | [.d (.str s), .d (.int .i64 n)], [] => if s.length < 549755813888 then some (match clamp7 n with | 0 => (.nils, []) | m + 1 => (.win 0 0 (min 3 (m + 1)) (m + 1), [.arr (intsD (ordI s n)) 1 (m + 1)])) else none
  | _, _ => none

theorem S10o_ok : SpecO Try.prog 10 S10o := by
  obtain ⟨f8, hf8⟩ : ∃ f, f = S8o := ⟨_, rfl⟩
  have htb : TblOk Try.prog (tblAddO 8 f8 tbl0) := by
    subst hf8
    exact tblAddO_ok S8o_ok (tbl0_ok _)
  refine specO_of T_ok htb mixed Try.func10 (by kernel_rfl) rfl (by kernel_rfl) ?_
  intro args objs r objs' h
  unfold S10o at h
  split at h
  · rename_i s n
    split at h
    · rename_i hs
      have h := Option.some.inj h
      refine ⟨by simp [Try.f10], ?_⟩
      have e8 : f8 [.d (.str s), .d (.int .i64 n)] [] = some (match clamp7 n with | 0 => (.nils, []) | m + 1 => (.win 0 0 (m + 1) (m + 1), [.arr (intsD (ordI s n)) 1 (m + 1)])) := by
        rw [hf8]
        have hn := ordI_nodes s n
        simp only [S8o]
        rw [if_pos hs]
        cases hc : clamp7 n with
        | zero => rfl
        | succ m => rw [hc] at hn; simp only [hn]
      have hlen := ordI_length s n
      have hle := clamp7_le n
      clear hf8
      generalize clamp7 n = m at h e8 hlen hle
      generalize ordI s n = l at h e8 hlen
      cases m with
      | zero =>
        cases h
        conv => whnf
        generalize hX : Tbl.o _ _ _ _ = X
        cases (hX.symm.trans e8 : X = some _)
        clear hX
        repeat' (first | ((conv => whnf); refine And.intro (?_ : Side _) ?_) | fail)
        all_goals (conv => whnf)
        · exact ⟨Int.le_refl _, by decide, by decide⟩
        · exact ⟨rfl, rfl⟩
      | succ m =>
        cases h
        conv => whnf
        generalize hX : Tbl.o _ _ _ _ = X
        cases (hX.symm.trans e8 : X = some _)
        clear hX
        repeat' (first | ((conv => whnf); refine And.intro (?_ : Side _) ?_) | fail)
        all_goals (conv => whnf)
        · exact ⟨⟨rfl, rfl, .inl (Nat.succ_ne_zero _)⟩, Int.le_refl _, by split <;> omega, by
            have : (AObj.arr (intsD l) 1 (m + 1)).rows.length = m + 1 := by simp [AObj.rows, intsD, hlen]
            rw [this]
            split <;> simp <;> omega⟩
        · refine ⟨congrArg (fun z => AV.win 0 0 z (m + 1)) ?_, rfl⟩
          show (if ((m + 1 : Nat) : Int) < 3 then ((m + 1 : Nat) : Int) else 3).toNat - 0 = min 3 (m + 1)
          split <;> omega
    · cases h
  · cases h

def S10 : List AV → Option AV
  | [.d (.str s), .d (.int .i64 n)] => if s.length < 549755813888 then some (.d (.sl (intsD ((ordI s n).take 3)))) else none
  | _ => none

theorem S10_ok : SpecOk Try.prog 10 S10 := by
  refine S10o_ok.freeze fun args r h => ?_
  unfold S10 at h
  split at h
  · rename_i s n
    split at h
    · rename_i hs
      cases h
      refine ⟨rfl, ?_⟩
      have hlen := ordI_length s n
      simp only [S10o]
      rw [if_pos hs]
      generalize ordI s n = l at hlen
      generalize clamp7 n = m at hlen
      cases m with
      | zero =>
        have := List.eq_nil_of_length_eq_zero hlen
        subst this
        exact ⟨_, _, rfl, rfl, rfl⟩
      | succ m =>
        refine ⟨_, _, rfl, ?_, rfl⟩
        refine (frz_win (off := 0) (n := 1) rfl Nat.one_pos).trans ?_
        rw [List.drop_zero]
        have : (intsD l).take (min 3 (m + 1)) = intsD (l.take 3) := by
          rw [← hlen, intsD, ← List.map_take, intsD, Nat.min_comm, ← List.take_take, List.take_of_length_le (show (l.take 3).length ≤ l.length by simp; omega)]
        rw [this]
    · cases h
  · cases h

def S11 : List AV → Option AV
  | [.d (.str s), .d (.int .i64 n)] => if s.length < 549755813888 then some (.d (.sl (intsD ((ordI s n).take 3)))) else none
  | _ => none

theorem S11_ok : SpecOk Try.prog 11 S11 := by
  obtain ⟨f9, hf9⟩ : ∃ f, f = S9 := ⟨_, rfl⟩
  have htb : TblOk Try.prog (tblAdd 9 f9 tbl0) := by
    subst hf9
    exact tblAdd_ok S9_ok (tbl0_ok _)
  refine spec_of T_ok htb mixed Try.func11 (by kernel_rfl) rfl (by kernel_rfl) ?_
  intro args r h
  unfold S11 at h
  split at h
  · rename_i s n
    split at h
    · rename_i hs
      cases h
      refine ⟨by simp [Try.f11], rfl, rfl, ?_⟩
      have e9 : f9 [.d (.str s), .d (.int .i64 n)] = some (.d (.sl (intsD (ordI s n)))) := by
        rw [hf9]
        simp only [S9]
        rw [if_pos hs]
        rfl
      have hlen := ordI_length s n
      have hle := clamp7_le n
      clear hf9
      generalize ordI s n = l at e9 hlen
      conv => whnf
      generalize hX : Tbl.c _ _ _ = X
      cases (hX.symm.trans e9 : X = some _)
      clear hX
      repeat' (first | ((conv => whnf); refine And.intro (?_ : Side _) ?_) | fail)
      all_goals (conv => whnf)
      · rw [intsD_length]
        refine ⟨⟨Int.le_refl _, by split <;> omega, by split <;> omega⟩, ?_⟩
        cases l with
        | nil => exact .inl rfl
        | cons => exact .inr rfl
      · refine congrArg (fun z => AV.d (D.sl z)) ?_
        rw [intsD_length]
        show List.take _ (intsD l) = _
        rw [show (if (3 : Int) < (l.length : Int) then 3 else (l.length : Int)).toNat = min 3 l.length by split <;> omega]
        rw [intsD, ← List.map_take, intsD, Nat.min_comm, ← List.take_take, List.take_of_length_le (show (l.take 3).length ≤ l.length by simp; omega)]
    · cases h
  · cases h

/-! ### Leading elements -/
section
variable {α : Type} (p : α → Bool)
def lead : List α → Nat
  | [] => 0
  | x :: l => if p x = true then lead l + 1 else 0
theorem lead_le : ∀ l : List α, lead p l ≤ l.length
  | [] => Nat.le_refl _
  | x :: l => by
    have := lead_le l
    simp only [lead, List.length_cons]
    split <;> omega
theorem lead_step (d : α) : ∀ (l : List α) (k : Nat), k ≤ lead p l → k < l.length → p (l.getD k d) = true → k + 1 ≤ lead p l
  | [], k, _, h, _ => absurd h (Nat.not_lt_zero k)
  | x :: l, 0, _, _, h => by
    have h : p x = true := h
    simp only [lead, if_pos h]; omega
  | x :: l, k + 1, h1, h2, h3 => by
    simp only [lead] at h1 ⊢
    split at h1
    · rename_i hx
      rw [if_pos hx]
      have := lead_step d l k (by omega) (by simpa using h2) (by simpa using h3)
      omega
    · omega
theorem lead_stop (d : α) : ∀ (l : List α) (k : Nat), k ≤ lead p l → (k < l.length → p (l.getD k d) = false) → k = lead p l
  | [], k, h, _ => by have h : k ≤ 0 := h; show k = 0; omega
  | x :: l, 0, _, h => by
    have h : p x = false := h (by simp)
    simp [lead, h]
  | x :: l, k + 1, h1, h2 => by
    simp only [lead] at h1 ⊢
    split at h1
    · rename_i hx
      rw [if_pos hx]
      have := lead_stop d l k (by omega) (fun h => by simpa using h2 (by simpa using h))
      omega
    · omega
theorem lead_all : ∀ (l : List α), lead p l = l.length ↔ ∀ x ∈ l, p x = true
  | [] => by simp [lead]
  | x :: l => by
    have := lead_all l
    have hle := lead_le p l
    simp only [lead, List.length_cons]
    split
    · rename_i hx
      simp [hx, this]
    · rename_i hx
      simp [hx]
end

def idxOf (v : Int) (l : List Int) : Int := if lead (fun x => !(v == x)) l < l.length then (lead (fun x => !(v == x)) l : Int) else -1
theorem ldZ {l : List Int} {n : Int} {sz : Nat} {k : List D → Prop} (hsz : sz = 1) (h : Side (0 ≤ n ∧ n < l.length)) (hk : k [.int .i64 (l.getD n.toNat 0)]) :
    ∃ r, Side (0 ≤ n ∧ n < (rowsZ l).length ∧ (rowsZ l).getD n.toNat [] = r) ∧ (match decide (r.length = sz) with | true => k r | false => False) := by
  subst hsz
  have h1 := h.ok.1
  have h2 := h.ok.2
  have h3 : n.toNat < l.length := by omega
  exact ⟨[.int .i64 (l.getD n.toNat 0)], ⟨h1, by rw [rowsZ_length]; exact h2, by simp [rowsZ, List.getD_eq_getElem?_getD, h3]⟩, hk⟩

def S38 : List AV → Option AV
  | [.d (.sl rows), .d (.int .i64 v)] => if rows.all isI64 = true ∧ rows.length < 1000000000 then some (.d (.int .i64 (idxOf v (rows.map AI.intOf)))) else none
  | _ => none

def st38 (l : List Int) (v : Int) (i : Nat) : AS := ⟨[(0, .d (.sl (rowsZ l))), (1, .d (.int .i64 v)), (7, .d (.int .i64 l.length)), (8, .d (.int .i64 i))], []⟩

theorem S38_ok : SpecOk Try.prog 38 S38 := by
  refine spec_of T_ok (tbl0_ok _) mixed Try.func38 (by kernel_rfl) rfl (by kernel_rfl) ?_
  intro args r h
  unfold S38 at h
  split at h
  · rename_i rows v
    split at h
    · rename_i hc
      obtain ⟨h1, h2⟩ := hc
      have h1 := rowsZ_of h1
      generalize rows.map AI.intOf = l at h1 h
      subst h1
      cases h
      rw [rowsZ_length] at h2
      refine ⟨by simp [Try.f38], rfl, rfl, ?_⟩
      conv => whnf
      have hle := lead_le (fun x => !(v == x)) l
      refine ⟨fun k σ => ∃ i, i ≤ lead (fun x => !(v == x)) l ∧ k = l.length - i ∧ σ = st38 l v i, l.length, ⟨st38 l v 0, atL _ ⟨rfl, rfl, congrArg (fun z => AV.d (D.int .i64 z)) (by rw [rowsZ_length]), rfl, trivial⟩, 0, by omega, rfl, rfl⟩, ?_⟩
      rintro k σ ⟨i, hi, rfl, rfl⟩
      repeat' (first | ((conv => whnf); intro _ _) | ((conv => whnf); refine And.intro ?_ ?_ <;> intro h <;> cases h) | ((conv => whnf); refine ldZ rfl ?_ ?_) | ((conv => whnf); refine And.intro (?_ : Side _) ?_) | fail)
      all_goals (conv => whnf)
      · have ha := of_decide_eq_true (Eq.symm (show true = decide _ from ‹_›))
        exact ⟨Int.natCast_nonneg _, ha⟩
      · rename_i ha hb
        have ha := of_decide_eq_true ha.symm
        have hs := lead_stop (fun x => !(v == x)) 0 l i hi fun _ => by
          show (!(v == l.getD i 0)) = false
          have hb : true = (v == l.getD i 0) := hb
          rw [← hb]; rfl
        refine congrArg (fun z => AV.d (D.int .i64 z)) ?_
        unfold idxOf
        rw [← hs, if_pos (by omega)]
      · rename_i ha hb
        have ha := of_decide_eq_true ha.symm
        have hs := lead_step (fun x => !(v == x)) 0 l i hi (by omega) (by
          show (!(v == l.getD i 0)) = true
          have hb : false = (v == l.getD i 0) := hb
          rw [← hb]; rfl)
        exact ⟨l.length - (i + 1), st38 l v (i + 1), by omega, atL _ ⟨rfl, rfl, rfl, congrArg (fun z => AV.d (D.int .i64 z)) (wi (m := i + 1) (by omega) (by omega)), trivial⟩, i + 1, hs, rfl, rfl⟩
      · rename_i ha
        have ha := of_decide_eq_false ha.symm
        refine congrArg (fun z => AV.d (D.int .i64 z)) ?_
        unfold idxOf
        rw [if_neg (by omega)]
    · cases h
  · cases h

theorem idxOf_mem (v : Int) (l : List Int) : 0 ≤ idxOf v l ↔ v ∈ l := by
  have h := lead_all (fun x => !(v == x)) l
  have hle := lead_le (fun x => !(v == x)) l
  unfold idxOf
  split
  · rename_i hlt
    have : ¬ ∀ x ∈ l, (!(v == x)) = true := fun hh => by have := h.2 hh; omega
    constructor
    · intro _
      refine Classical.byContradiction fun hn => this fun x hx => ?_
      have : v ≠ x := fun e => hn (e ▸ hx)
      simp [this]
    · intro _; omega
  · rename_i hlt
    have hall := h.1 (by omega)
    constructor
    · intro hh; omega
    · intro hv
      have := hall v hv
      simp at this

def S26 : List AV → Option AV
  | [.d (.sl rows), .d (.int .i64 v)] => if rows.all isI64 = true ∧ rows.length < 1000000000 then some (.d (.bool (decide (v ∈ rows.map AI.intOf)))) else none
  | _ => none

theorem S26_ok : SpecOk Try.prog 26 S26 := by
  obtain ⟨f38, hf38⟩ : ∃ f, f = S38 := ⟨_, rfl⟩
  have htb : TblOk Try.prog (tblAdd 38 f38 tbl0) := by
    subst hf38
    exact tblAdd_ok S38_ok (tbl0_ok _)
  refine spec_of T_ok htb mixed Try.func26 (by kernel_rfl) rfl (by kernel_rfl) ?_
  intro args r h
  unfold S26 at h
  split at h
  · rename_i rows v
    split at h
    · rename_i hc
      cases h
      refine ⟨by simp [Try.f26], rfl, rfl, ?_⟩
      have e38 : f38 [.d (.sl rows), .d (.int .i64 v)] = some (.d (.int .i64 (idxOf v (rows.map AI.intOf)))) := by
        rw [hf38]
        simp only [S38]
        rw [if_pos hc]
      clear hf38
      have hm := idxOf_mem v (rows.map AI.intOf)
      generalize idxOf v (rows.map AI.intOf) = z at e38 hm
      conv => whnf
      generalize hX : Tbl.c _ _ _ = X
      cases (hX.symm.trans e38 : X = some _)
      clear hX
      repeat' (first | ((conv => whnf); intro _ _) | fail)
      all_goals (conv => whnf)
      rename_i c hc2
      rw [hc2]
      exact congrArg (fun z => AV.d (D.bool z)) (decide_eq_decide.2 hm)
    · cases h
  · cases h

theorem intsD_all (l : List Nat) : (intsD l).all isI64 = true := by simp [intsD, isI64]
theorem intsD_int (l : List Nat) : (intsD l).map AI.intOf = l.map fun x : Nat => (x : Int) := by simp [intsD, AI.intOf, Function.comp_def]
def nodesI (s : List UInt8) (n : Int) : List Nat := (ordI s n).take 3
theorem nodesI_length (s : List UInt8) (n : Int) : (nodesI s n).length ≤ 3 := by simp [nodesI]; omega
def hasI (s : List UInt8) (n v : Int) : Bool := decide (v ∈ (nodesI s n).map fun x : Nat => (x : Int))

def S12 : List AV → Option AV
  | [.d (.str s), .d (.int .i64 n), .d (.int .i64 v)] => if s.length < 549755813888 then some (.d (.bool (hasI s n v))) else none
  | _ => none

theorem S12_ok : SpecOk Try.prog 12 S12 := by
  obtain ⟨f10, hf10⟩ : ∃ f, f = S10 := ⟨_, rfl⟩
  obtain ⟨f26, hf26⟩ : ∃ f, f = S26 := ⟨_, rfl⟩
  have htb : TblOk Try.prog (tblAdd 10 f10 (tblAdd 26 f26 tbl0)) := by
    subst hf10 hf26
    exact tblAdd_ok S10_ok (tblAdd_ok S26_ok (tbl0_ok _))
  refine spec_of T_ok htb mixed Try.func12 (by kernel_rfl) rfl (by kernel_rfl) ?_
  intro args r h
  unfold S12 at h
  split at h
  · rename_i s n v
    split at h
    · rename_i hs
      cases h
      refine ⟨by simp [Try.f12], rfl, rfl, ?_⟩
      have e10 : f10 [.d (.str s), .d (.int .i64 n)] = some (.d (.sl (intsD (nodesI s n)))) := by
        rw [hf10]
        simp only [S10]
        rw [if_pos hs]
        rfl
      have e26 : f26 [.d (.sl (intsD (nodesI s n))), .d (.int .i64 v)] = some (.d (.bool (hasI s n v))) := by
        rw [hf26]
        have := nodesI_length s n
        simp only [S26]
        rw [if_pos ⟨intsD_all _, by rw [intsD_length]; omega⟩, intsD_int]
        rfl
      clear hf10 hf26
      conv => whnf
      generalize hX : Tbl.c _ _ _ = X
      cases (hX.symm.trans e10 : X = some _)
      clear hX
      conv => whnf
      generalize hX : Tbl.c _ _ _ = X
      cases (hX.symm.trans e26 : X = some _)
      clear hX
      repeat' (first | ((conv => whnf); intro _ _) | fail)
      all_goals (conv => whnf)
      rename_i c hc2
      rw [hc2]
    · cases h
  · cases h

def S7 : List AV → Option AV
  | [.d (.sl a), .d (.sl b)] => if (a.all isI64 = true ∧ b.all isI64 = true) ∧ a.length < 1000000000 then some (.d (.bool (decide (a.map AI.intOf = b.map AI.intOf)))) else none
  | _ => none

def st7 (a b : List Int) (i : Nat) : AS := ⟨[(0, .d (.sl (rowsZ a))), (1, .d (.sl (rowsZ b))), (12, .d (.int .i64 a.length)), (13, .d (.int .i64 i))], []⟩

theorem S7_ok : SpecOk Try.prog 7 S7 := by
  refine spec_of T_ok (tbl0_ok _) mixed Try.func7 (by kernel_rfl) rfl (by kernel_rfl) ?_
  intro args r h
  unfold S7 at h
  split at h
  · rename_i ra rb
    split at h
    · rename_i hc
      obtain ⟨⟨h1, h2⟩, h3⟩ := hc
      have h1 := rowsZ_of h1
      have h2 := rowsZ_of h2
      generalize ra.map AI.intOf = a at h1 h
      generalize rb.map AI.intOf = b at h2 h
      subst h1 h2
      cases h
      rw [rowsZ_length] at h3
      refine ⟨by simp [Try.f7], rfl, rfl, ?_⟩
      repeat' (first | ((conv => whnf); intro _ _) | ((conv => whnf); refine And.intro ?_ ?_ <;> intro h <;> cases h) | ((conv => whnf); refine And.intro (?_ : Side _) ?_) | fail)
      all_goals (conv => whnf)
      · rename_i ha
        have ha := true_eq_not_iff'.1 ha
        refine congrArg (fun z => AV.d (D.bool z)) (Eq.symm (decide_eq_false fun e => ?_))
        subst e
        simp at ha
      · rename_i ha
        have ha := eq_of_beq (false_eq_not_iff'.1 ha)
        have hl : a.length = b.length := by rw [rowsZ_length, rowsZ_length] at ha; omega
        clear ha
        refine ⟨fun k σ => ∃ i, i ≤ a.length ∧ a.take i = b.take i ∧ k = a.length - i ∧ σ = st7 a b i, a.length, ⟨st7 a b 0, atL _ ⟨rfl, rfl, congrArg (fun z => AV.d (D.int .i64 z)) (by rw [rowsZ_length]), rfl, trivial⟩, 0, by omega, rfl, rfl, rfl⟩, ?_⟩
        rintro k σ ⟨i, hi, ht, rfl, rfl⟩
        repeat' (first | ((conv => whnf); intro _ _) | ((conv => whnf); refine And.intro ?_ ?_ <;> intro h <;> cases h) | ((conv => whnf); refine ldZ rfl ?_ ?_) | ((conv => whnf); refine And.intro (?_ : Side _) ?_) | fail)
        all_goals (conv => whnf)
        · have ha := of_decide_eq_true (Eq.symm (show true = decide _ from ‹_›))
          exact ⟨Int.natCast_nonneg _, ha⟩
        · have ha := of_decide_eq_true (Eq.symm (show true = decide _ from ‹_›))
          exact ⟨Int.natCast_nonneg _, by omega⟩
        · rename_i ha hb
          have ha := of_decide_eq_true ha.symm
          have hb := true_eq_not_iff'.1 hb
          refine congrArg (fun z => AV.d (D.bool z)) (Eq.symm (decide_eq_false fun e => ?_))
          subst e
          simp at hb
        · rename_i ha hb
          have ha := of_decide_eq_true ha.symm
          have hb : a.getD i 0 = b.getD i 0 := eq_of_beq (false_eq_not_iff'.1 hb)
          refine ⟨a.length - (i + 1), st7 a b (i + 1), by omega, atL _ ⟨rfl, rfl, rfl, congrArg (fun z => AV.d (D.int .i64 z)) (wi (m := i + 1) (by omega) (by omega)), trivial⟩, i + 1, by omega, ?_, rfl, rfl⟩
          rw [List.take_add_one, List.take_add_one, ht]
          simp only [List.getD_eq_getElem?_getD, List.getElem?_eq_getElem (show i < a.length by omega), List.getElem?_eq_getElem (show i < b.length by omega), Option.getD_some] at hb
          simp [show i < a.length by omega, show i < b.length by omega, hb]
        · rename_i ha
          have ha := of_decide_eq_false ha.symm
          have hia : i = a.length := by omega
          refine congrArg (fun z => AV.d (D.bool z)) (Eq.symm (decide_eq_true ?_))
          rw [hia, List.take_length, hl, List.take_length] at ht
          exact ht
    · cases h
  · cases h

theorem ints_eq (a b : List Nat) : (a.map (fun x : Nat => (x : Int)) = b.map fun x : Nat => (x : Int)) ↔ a = b := by
  constructor
  · intro h
    have := congrArg (List.map Int.toNat) h
    simpa [List.map_map, Function.comp_def] using this
  · intro h; rw [h]

/-- What is left of the nodes without one. -/
def othersI (s : List UInt8) (n v : Int) : List Nat := (nodesI s n).filter fun x : Nat => !((x : Int) == v)

def S15 : List AV → Option AV
  | [.d (.str s), .d (.int .i64 n), .d (.int .i64 v)] => if s.length < 549755813888 then some (.d (.sl (intsD (othersI s n v)))) else none
  | _ => none

def filt (v : Int) (l : List Nat) (i : Nat) : List Nat := (l.take i).filter fun x : Nat => !((x : Int) == v)
def st15 (v : Int) (l : List Nat) (F : List Nat) (i : Nat) : AS :=
  ⟨[(2, .d (.int .i64 v)), (7, match F with | [] => .nils | x :: t => .win 0 0 (t.length + 1) (t.length + 1)), (8, .d (.sl (intsD l))), (9, .d (.int .i64 i))], match F with | [] => [] | x :: t => [.arr (intsD (x :: t)) 1 (t.length + 1)]⟩
theorem filt_succ (v : Int) (l : List Nat) {i : Nat} (h : i < l.length) : filt v l (i + 1) = filt v l i ++ (if (((l.getD i 0 : Nat) : Int) == v) = true then [] else [l.getD i 0]) := by
  unfold filt
  have e : l.take (i + 1) = l.take i ++ [l.getD i 0] := by
    rw [List.take_add_one, List.getD_eq_getElem?_getD]
    simp [h]
  rw [e, List.filter_append]
  congr 1
  rw [List.filter_cons, List.filter_nil]
  cases hb : (((l.getD i 0 : Nat) : Int) == v) <;> rfl
theorem ldN8 {l : List Nat} {n : Int} {sz : Nat} {k : List D → Prop} (hsz : sz = 1) (h : Side (0 ≤ n ∧ n < l.length)) (hk : k [.int .i64 ((l.getD n.toNat 0 : Nat) : Int)]) :
    ∃ r, Side (0 ≤ n ∧ n < (intsD l).length ∧ (intsD l).getD n.toNat [] = r) ∧ (match decide (r.length = sz) with | true => k r | false => False) := by
  subst hsz
  have h1 := h.ok.1
  have h2 := h.ok.2
  have h3 : n.toNat < l.length := by omega
  exact ⟨[.int .i64 ((l.getD n.toNat 0 : Nat) : Int)], ⟨h1, by rw [intsD_length]; exact h2, by simp [intsD, List.getD_eq_getElem?_getD, h3]⟩, hk⟩

theorem S15_ok : SpecOk Try.prog 15 S15 := by
  obtain ⟨f11, hf11⟩ : ∃ f, f = S11 := ⟨_, rfl⟩
  have htb : TblOk Try.prog (tblAdd 11 f11 tbl0) := by
    subst hf11
    exact tblAdd_ok S11_ok (tbl0_ok _)
  refine specF_of T_ok htb mixed Try.func15 (by kernel_rfl) rfl (by kernel_rfl) ?_
  intro args r h
  unfold S15 at h
  split at h
  · rename_i s n v
    split at h
    · rename_i hs
      cases h
      refine ⟨by simp [Try.f15], rfl, rfl, ?_⟩
      have e11 : f11 [.d (.str s), .d (.int .i64 n)] = some (.d (.sl (intsD (nodesI s n)))) := by
        rw [hf11]
        simp only [S11]
        rw [if_pos hs]
        rfl
      clear hf11
      have hlen := nodesI_length s n
      unfold othersI
      generalize nodesI s n = l at e11 hlen
      conv => whnf
      generalize hX : Tbl.c _ _ _ = X
      cases (hX.symm.trans e11 : X = some _)
      clear hX
      repeat' (first | ((conv => whnf); intro _ _) | ((conv => whnf); refine And.intro (?_ : Side _) ?_) | fail)
      all_goals (conv => whnf)
      refine ⟨fun k σ => ∃ i, i ≤ l.length ∧ k = l.length - i ∧ σ = st15 v l (filt v l i) i, l.length, ⟨st15 v l (filt v l 0) 0, atL _ ⟨rfl, rfl, rfl, rfl, trivial⟩, 0, by omega, rfl, rfl⟩, ?_⟩
      rintro k σ ⟨i, hi, rfl, rfl⟩
      have hfs := fun h => filt_succ v l (i := i) h
      generalize hf : filt v l i = F
      cases F with
      | nil =>
        repeat' (first | ((conv => whnf); intro _ _) | ((conv => whnf); refine And.intro ?_ ?_ <;> intro h <;> cases h) | ((conv => whnf); refine Or.inl ?_) | ((conv => whnf); refine ldN8 rfl ?_ ?_) | ((conv => whnf); refine And.intro (?_ : Side _) ?_) | fail)
        all_goals (conv => whnf)
        · rename_i ha
          have ha := of_decide_eq_true ha.symm
          rw [intsD_length] at ha
          exact ⟨Int.natCast_nonneg _, ha⟩
        · rename_i ha hb
          have ha := of_decide_eq_true ha.symm
          rw [intsD_length] at ha
          exact ⟨Int.natCast_nonneg _, ha⟩
        · exact ap3N rfl
        · rename_i ha hb
          have ha := of_decide_eq_true ha.symm
          rw [intsD_length] at ha
          have hb : (((l.getD i 0 : Nat) : Int) == v) = false := true_eq_not_iff'.1 hb
          have e := hfs (by omega)
          rw [hb, hf] at e
          refine ⟨l.length - (i + 1), st15 v l (filt v l (i + 1)) (i + 1), by omega, ?_, i + 1, by omega, rfl, rfl⟩
          rw [e]
          exact WeakN.perm [0] rfl rfl rfl ⟨⟨rfl, rfl⟩, ⟨rfl, rfl⟩, ⟨rfl, rfl⟩, ⟨rfl, congrArg (fun z => AV.d (D.int .i64 z)) (wi (m := i + 1) (by omega) (by omega))⟩, trivial⟩
        · rename_i ha hb
          have ha := of_decide_eq_true ha.symm
          rw [intsD_length] at ha
          have hb : (((l.getD i 0 : Nat) : Int) == v) = true := false_eq_not_iff'.1 hb
          have e := hfs (by omega)
          rw [hb, hf] at e
          refine ⟨l.length - (i + 1), st15 v l (filt v l (i + 1)) (i + 1), by omega, ?_, i + 1, by omega, rfl, rfl⟩
          rw [e]
          exact atL _ ⟨rfl, rfl, rfl, congrArg (fun z => AV.d (D.int .i64 z)) (wi (m := i + 1) (by omega) (by omega)), trivial⟩
        · rename_i ha
          have ha := of_decide_eq_false ha.symm
          rw [intsD_length] at ha
          have : i = l.length := by omega
          subst this
          unfold filt at hf
          rw [List.take_length] at hf
          rw [hf]
          rfl
      | cons x t =>
        repeat' (first | ((conv => whnf); intro _ _) | ((conv => whnf); refine And.intro ?_ ?_ <;> intro h <;> cases h) | ((conv => whnf); refine Or.inl ?_) | ((conv => whnf); refine ldN8 rfl ?_ ?_) | ((conv => whnf); refine And.intro (?_ : Side _) ?_) | fail)
        all_goals (conv => whnf)
        · rename_i ha
          have ha := of_decide_eq_true ha.symm
          rw [intsD_length] at ha
          exact ⟨Int.natCast_nonneg _, ha⟩
        · rename_i ha hb
          have ha := of_decide_eq_true ha.symm
          rw [intsD_length] at ha
          exact ⟨Int.natCast_nonneg _, ha⟩
        · have hft : (filt v l i).length ≤ 3 := Nat.le_trans (List.length_filter_le _ _) (by rw [List.length_take]; omega)
          rw [hf, List.length_cons] at hft
          exact ap3W (by rw [intsD_length, List.length_cons]; omega) rfl (Nat.succ_ne_zero _) (by omega)
        · rename_i ha hb
          have ha := of_decide_eq_true ha.symm
          rw [intsD_length] at ha
          have hb : (((l.getD i 0 : Nat) : Int) == v) = false := true_eq_not_iff'.1 hb
          have e := hfs (by omega)
          rw [hb, hf] at e
          have e : filt v l (i + 1) = x :: (t ++ [l.getD i 0]) := e
          have hl2 : (t ++ [l.getD i 0]).length = t.length + 1 := by simp
          refine ⟨l.length - (i + 1), st15 v l (filt v l (i + 1)) (i + 1), by omega, ?_, i + 1, by omega, rfl, rfl⟩
          rw [e]
          refine WeakN.perm [0] rfl rfl ?_ ⟨⟨rfl, rfl⟩, ⟨rfl, ?_⟩, ⟨rfl, rfl⟩, ⟨rfl, congrArg (fun z => AV.d (D.int .i64 z)) (wi (m := i + 1) (by omega) (by omega))⟩, trivial⟩
          · show [AObj.arr (intsD (x :: t) ++ [[D.int .i64 ((l.getD i 0 : Nat) : Int)]]) 1 (t.length + 1 + 1)] = [AObj.arr (intsD (x :: (t ++ [l.getD i 0]))) 1 ((t ++ [l.getD i 0]).length + 1)]
            rw [hl2]
            simp [intsD]
          · show AV.win 0 0 (t.length + 1 + 1) (t.length + 1 + 1) = AV.win 0 0 ((t ++ [l.getD i 0]).length + 1) ((t ++ [l.getD i 0]).length + 1)
            rw [hl2]
        · rename_i ha hb
          have ha := of_decide_eq_true ha.symm
          rw [intsD_length] at ha
          have hb : (((l.getD i 0 : Nat) : Int) == v) = true := false_eq_not_iff'.1 hb
          have e := hfs (by omega)
          rw [hb, hf] at e
          have e : filt v l (i + 1) = x :: t := by rw [e]; simp
          refine ⟨l.length - (i + 1), st15 v l (filt v l (i + 1)) (i + 1), by omega, ?_, i + 1, by omega, rfl, rfl⟩
          rw [e]
          exact WeakN.perm [0] rfl rfl rfl ⟨⟨rfl, rfl⟩, ⟨rfl, rfl⟩, ⟨rfl, rfl⟩, ⟨rfl, congrArg (fun z => AV.d (D.int .i64 z)) (wi (m := i + 1) (by omega) (by omega))⟩, trivial⟩
        · rename_i ha
          have ha := of_decide_eq_false ha.symm
          rw [intsD_length] at ha
          have : i = l.length := by omega
          subst this
          unfold filt at hf
          rw [List.take_length] at hf
          rw [hf]
          refine (frz_win (off := 0) (n := 1) rfl Nat.one_pos).trans ?_
          rw [List.drop_zero, List.take_of_length_le (by rw [intsD_length]; exact Nat.le_refl _)]
    · cases h
  · cases h

def S13 : List AV → Option AV
  | [.d (.str s), .d (.int .i64 n), .d (.int .i64 v)] => if s.length < 549755813888 then some (.d (.bool (decide ((othersI s n v).length < (nodesI s n).length)))) else none
  | _ => none

theorem S13_ok : SpecOk Try.prog 13 S13 := by
  obtain ⟨f11, hf11⟩ : ∃ f, f = S11 := ⟨_, rfl⟩
  obtain ⟨f15, hf15⟩ : ∃ f, f = S15 := ⟨_, rfl⟩
  have htb : TblOk Try.prog (tblAdd 15 f15 (tblAdd 11 f11 tbl0)) := by
    subst hf11 hf15
    exact tblAdd_ok S15_ok (tblAdd_ok S11_ok (tbl0_ok _))
  refine spec_of T_ok htb mixed Try.func13 (by kernel_rfl) rfl (by kernel_rfl) ?_
  intro args r h
  unfold S13 at h
  split at h
  · rename_i s n v
    split at h
    · rename_i hs
      cases h
      refine ⟨by simp [Try.f13], rfl, rfl, ?_⟩
      have e11 : f11 [.d (.str s), .d (.int .i64 n)] = some (.d (.sl (intsD (nodesI s n)))) := by
        rw [hf11]
        simp only [S11]
        rw [if_pos hs]
        rfl
      have e15 : f15 [.d (.str s), .d (.int .i64 n), .d (.int .i64 v)] = some (.d (.sl (intsD (othersI s n v)))) := by
        rw [hf15]
        simp only [S15]
        rw [if_pos hs]
      clear hf11 hf15
      conv => whnf
      generalize hX : Tbl.c _ _ _ = X
      cases (hX.symm.trans e15 : X = some _)
      clear hX
      conv => whnf
      generalize hX : Tbl.c _ _ _ = X
      cases (hX.symm.trans e11 : X = some _)
      clear hX
      repeat' (first | ((conv => whnf); intro _ _) | fail)
      all_goals (conv => whnf)
      rename_i c hc2
      rw [hc2, intsD_length, intsD_length]
      exact congrArg (fun z => AV.d (D.bool z)) (decide_eq_decide.2 (by omega))
    · cases h
  · cases h

/-- Whether a node has a piece is the same on both sides. -/
theorem has_eq (s : List UInt8) (n v : Int) : decide ((othersI s n v).length < (nodesI s n).length) = hasI s n v := by
  unfold othersI hasI
  refine decide_eq_decide.2 ?_
  generalize nodesI s n = l
  constructor
  · intro h
    refine Classical.byContradiction fun hn => ?_
    have : l.filter (fun x : Nat => !((x : Int) == v)) = l := by
      rw [List.filter_eq_self]
      intro x hx
      have : (x : Int) ≠ v := fun e => hn (List.mem_map.2 ⟨x, hx, e⟩)
      simp [this]
    rw [this] at h
    omega
  · intro h
    obtain ⟨x, hx, e⟩ := List.mem_map.1 h
    refine List.length_filter_lt_length_iff_exists.2 ⟨x, hx, ?_⟩
    simp [e]
end Go.Proofs.Ytejejeginfjnjaa
