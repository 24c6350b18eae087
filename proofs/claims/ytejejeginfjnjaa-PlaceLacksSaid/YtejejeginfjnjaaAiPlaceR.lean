/- Both orders are one: the plain law. -/
import Derived.Test.YtejejeginfjnjaaAiPlaceQ
namespace Go.Proofs.Ytejejeginfjnjaa
open Go Go.AI Go.Shelf
set_option linter.unusedVariables false

theorem leB_iff (a b : List UInt8) : leB a b = true ↔ ¬ 0 < Lib.compareBytes a b := by
  unfold leB
  have hz := cb_zero a b
  rw [less_cb, Bool.or_eq_true, decide_eq_true_eq, beq_iff_eq, ← hz]
  omega
def leR (x y : Rk) : Bool := !(ltOf cfRk) y x
theorem leR_iff (x y : Rk) : leR x y = true ↔ ¬ cfRk y x < 0 := by
  unfold leR ltOf
  simp
theorem rk_fst (s : List UInt8) {i : Nat} (h : i < 8) : (rk s i).1.val = i := by
  simp [rk]; omega
theorem le_up (s : List UInt8) {x i : Nat} (h : x < i) (hi : i < 8) : leR (rk s x) (rk s i) = true ↔ leB (rkB s x) (rkB s i) = true := by
  rw [leR_iff, cf_iff, leB_iff, rk_fst s hi, rk_fst s (by omega : x < 8)]
  have := cb_swap (rkB s x) (rkB s i)
  show ¬ (Lib.compareBytes (rkB s i) (rkB s x) < 0 ∨ (rkB s i = rkB s x ∧ i < x)) ↔ _
  constructor
  · intro h1 h2
    exact h1 (.inl (by omega))
  · rintro h1 (h2 | ⟨_, h2⟩) <;> omega
theorem le_down (s : List UInt8) {x i : Nat} (h : x < i) (hi : i < 8) : leR (rk s i) (rk s x) = true ↔ leB (rkB s x) (rkB s i) = false := by
  rw [← Bool.not_eq_true, leR_iff, cf_iff, leB_iff, rk_fst s hi, rk_fst s (by omega : x < 8)]
  have hz := cb_zero (rkB s x) (rkB s i)
  show ¬ (Lib.compareBytes (rkB s x) (rkB s i) < 0 ∨ (rkB s x = rkB s i ∧ x < i)) ↔ _
  rw [← hz]
  omega

theorem firstK_take (r : Nat → List UInt8) (i : Nat) : ∀ (l : List Nat), ∀ x ∈ l.take (firstK r i l), leB (r x) (r i) = true
  | [], x, h => by simp at h
  | y :: l, x, h => by
    simp only [firstK] at h
    split at h
    · rename_i hy
      rw [List.take_succ_cons] at h
      rcases List.mem_cons.1 h with rfl | h
      · exact hy
      · exact firstK_take r i l x h
    · simp at h
theorem firstK_drop (r : Nat → List UInt8) (i : Nat) : ∀ (l : List Nat) (y : Nat) (t : List Nat), l.drop (firstK r i l) = y :: t → leB (r y) (r i) = false
  | [], y, t, h => by simp at h
  | z :: l, y, t, h => by
    simp only [firstK] at h
    split at h
    · exact firstK_drop r i l y t h
    · rename_i hz
      rw [List.drop_zero] at h
      cases h
      simpa using hz

theorem ordQ_perm (r : Nat → List UInt8) : ∀ m, (ordQ r m).Perm (List.range m)
  | 0 => .refl _
  | m + 1 => by
    have ih := ordQ_perm r m
    rw [ordQ, insQ, List.range_succ]
    refine List.perm_middle.trans ?_
    rw [List.take_append_drop]
    exact (List.Perm.cons m ih).trans (List.perm_append_singleton m _).symm

theorem ordQ_sorted (s : List UInt8) : ∀ m, m ≤ 8 → (ordQ (rkB s) m).Pairwise fun x y => leR (rk s x) (rk s y) = true
  | 0, _ => .nil
  | m + 1, hm => by
    have ih := ordQ_sorted s m (by omega)
    have hlt : ∀ x ∈ ordQ (rkB s) m, x < m := fun x hx => List.mem_range.1 ((ordQ_perm (rkB s) m).mem_iff.1 hx)
    rw [ordQ, insQ]
    generalize ordQ (rkB s) m = l at ih hlt
    have ht := firstK_take (rkB s) m l
    have hd := firstK_drop (rkB s) m l
    generalize firstK (rkB s) m l = k at ht hd
    have hsplit : (l.take k ++ l.drop k).Pairwise fun x y => leR (rk s x) (rk s y) = true := by rw [List.take_append_drop]; exact ih
    obtain ⟨p1, p2, p3⟩ := List.pairwise_append.1 hsplit
    have hdown : ∀ x ∈ l.drop k, leR (rk s m) (rk s x) = true := by
      intro x hx
      have hxm := hlt x (List.mem_of_mem_drop hx)
      rw [le_down s hxm (by omega)]
      cases hdk : l.drop k with
      | nil => rw [hdk] at hx; cases hx
      | cons y t =>
        have hy := hd y t hdk
        rw [hdk] at hx p2
        rcases List.mem_cons.1 hx with rfl | hxt
        · exact hy
        · have hyx := (List.pairwise_cons.1 p2).1 x hxt
          rw [leR_iff, cf_iff] at hyx
          have hy2 : 0 < Lib.compareBytes (rkB s y) (rkB s m) := by
            have := leB_iff (rkB s y) (rkB s m)
            rw [hy] at this
            simp at this
            omega
          have hns : ¬ Lib.compareBytes (rkB s x) (rkB s y) < 0 := fun h => hyx (.inl h)
          rw [← Bool.not_eq_true, leB_iff]
          intro hn
          apply hn
          have s1 := cb_swap (rkB s x) (rkB s y)
          have s2 := cb_swap (rkB s y) (rkB s m)
          have s3 := cb_swap (rkB s x) (rkB s m)
          by_cases he : Lib.compareBytes (rkB s x) (rkB s y) = 0
          · rw [(cb_zero _ _).1 he]; exact hy2
          · have := cb_trans (rkB s m) (rkB s y) (rkB s x) (by omega) (by omega)
            omega
    refine List.pairwise_append.2 ⟨p1, List.pairwise_cons.2 ⟨hdown, p2⟩, fun x hx y hy => ?_⟩
    have hxm := hlt x (List.mem_of_mem_take hx)
    rcases List.mem_cons.1 hy with rfl | hy
    · exact (le_up s hxm (by omega)).2 (ht x hx)
    · exact p3 x hx y hy

theorem ordL_eq (s : List UInt8) {m : Nat} (hm : m ≤ 8) : ordL s m = (ordQ (rkB s) m).map (rk s) := by
  have hs := List.pairwise_mergeSort (le := leR) (fun a b c h1 h2 => by
    rw [leR_iff] at *
    intro h3
    have := rk_swo.ntrans c b a (by unfold ltOf; simpa using h2) (by unfold ltOf; simpa using h1)
    unfold ltOf at this
    simp at this
    omega) (fun a b => by
    rw [Bool.or_eq_true, leR_iff, leR_iff]
    rcases Classical.em (cfRk b a < 0) with h | h
    · right
      intro h2
      exact cf_irrefl _ (cf_trans h h2)
    · exact .inl h) (rkL s m)
  refine List.Perm.eq_of_pairwise (le := fun a b => leR a b = true) (fun a b _ _ h1 h2 => ?_) hs ?_ ?_
  · rw [leR_iff] at h1 h2
    exact rk_total a b (by unfold ltOf; simpa using h2) (by unfold ltOf; simpa using h1)
  · rw [List.pairwise_map]
    exact ordQ_sorted s m hm
  · refine (List.mergeSort_perm _ _).trans ?_
    exact ((ordQ_perm (rkB s) m).map (rk s)).symm

/-- Both orders are one. -/
theorem nodes_eq (s : List UInt8) {m : Nat} (hm : m ≤ 8) : nodesD (ordL s m) = intsD (ordQ (rkB s) m) := by
  rw [ordL_eq s hm, nodesD, intsD, List.map_map]
  refine List.map_congr_left fun x hx => ?_
  have hlt := List.mem_range.1 ((ordQ_perm (rkB s) m).mem_iff.1 hx)
  show [D.int .i64 ((rk s x).1.val : Int)] = _
  rw [rk_fst s (by omega)]
end Go.Proofs.Ytejejeginfjnjaa
