/- What more than half have: the sorted list's middle is the greatest such number. -/
import Derived.Test.YtnephacfnbcdeaaAiPeersH
namespace Go.Proofs.Ytnephacfnbcdeaa
open Go Go.AI Go.Shelf

theorem cntM_count (ms : List Int) (v : Int) (L : List Nat) : cntM ms v L = (L.map (atM ms)).countP fun x => decide (v ≤ x) := by
  induction L with
  | nil => rfl
  | cons x l ih =>
    simp only [cntM, ih, List.map_cons, List.countP_cons]
    cases decide (v ≤ atM ms x) <;> simp <;> omega

theorem sort_perm (M : List Int) : (sortBy cmpD M).Perm M := List.mergeSort_perm _ _

theorem sort_desc (M : List Int) : (sortBy cmpD M).Pairwise fun x y => y ≤ x := by
  have h := List.pairwise_mergeSort (le := fun x y => !(ltOf cmpD) y x) (fun a b c h1 h2 => by
    simp only [lt_cmpD] at *
    simp at *
    omega) (fun a b => by
    simp only [lt_cmpD]
    simp
    omega) M
  refine h.imp fun hxy => ?_
  simp only [lt_cmpD] at hxy
  simp at hxy
  omega

theorem count_ge {S : List Int} (hs : S.Pairwise fun x y => y ≤ x) {k : Nat} (hk : k < S.length) : k + 1 ≤ S.countP fun x => decide (S[k] ≤ x) := by
  have e : S = S.take (k + 1) ++ S.drop (k + 1) := (List.take_append_drop _ _).symm
  have h1 : (S.take (k + 1)).countP (fun x => decide (S[k] ≤ x)) = (S.take (k + 1)).length := by
    rw [List.countP_eq_length]
    intro x hx
    obtain ⟨i, hi, rfl⟩ := List.mem_iff_getElem.1 hx
    rw [List.getElem_take]
    have hi' : i < k + 1 := by simp at hi; omega
    simp only [decide_eq_true_eq]
    by_cases hik : i = k
    · subst hik; exact Int.le_refl _
    · exact List.pairwise_iff_getElem.1 hs i k (by omega) hk (by omega)
  have h2 : S.countP (fun x => decide (S[k] ≤ x)) = (S.take (k + 1)).countP (fun x => decide (S[k] ≤ x)) + (S.drop (k + 1)).countP (fun x => decide (S[k] ≤ x)) := by
    rw [← List.countP_append, ← e]
  rw [h2, h1, List.length_take]
  omega

theorem count_gt {S : List Int} (hs : S.Pairwise fun x y => y ≤ x) {k : Nat} (hk : k < S.length) {v : Int} (hv : S[k] < v) : (S.countP fun x => decide (v ≤ x)) ≤ k := by
  have h2 : S.countP (fun x => decide (v ≤ x)) = (S.take k).countP (fun x => decide (v ≤ x)) + (S.drop k).countP (fun x => decide (v ≤ x)) := by
    rw [← List.countP_append, List.take_append_drop]
  have h3 : (S.drop k).countP (fun x => decide (v ≤ x)) = 0 := by
    rw [List.countP_eq_zero]
    intro x hx
    obtain ⟨i, hi, rfl⟩ := List.mem_iff_getElem.1 hx
    rw [List.getElem_drop]
    simp only [decide_eq_true_eq]
    have hi' : k + i < S.length := by simp at hi; omega
    by_cases hi0 : i = 0
    · subst hi0; simp only [Nat.add_zero]; omega
    · have := List.pairwise_iff_getElem.1 hs k (k + i) hk hi' (by omega)
      omega
  have h4 := List.countP_le_length (p := fun x => decide (v ≤ x)) (l := S.take k)
  rw [List.length_take] at h4
  omega

/-- More than half have it. -/
def good (ms : List Int) (L : List Nat) (v : Int) : Prop := L.length < 2 * cntM ms v L

theorem foldM_says (ms : List Int) (L : List Nat) : ∀ i, i ≤ L.length → ((foldM ms L i).2 = true → (∃ x ∈ L, atM ms x = (foldM ms L i).1) ∧ good ms L (foldM ms L i).1) ∧
    (∀ x ∈ L.take i, good ms L (atM ms x) → (foldM ms L i).2 = true ∧ atM ms x ≤ (foldM ms L i).1) ∧ ((foldM ms L i).2 = false → (foldM ms L i).1 = 0) := by
  intro i
  induction i with
  | zero => intro _; exact ⟨fun h => by simp [foldM] at h, fun x hx => by simp at hx, fun _ => rfl⟩
  | succ i ih =>
    intro hi
    have hi' : i < L.length := by omega
    obtain ⟨h1, h2, h3⟩ := ih (by omega)
    rw [foldM_succ ms hi']
    have hx : L.getD i 0 = L[i] := by simp [List.getD_eq_getElem?_getD, hi']
    rw [hx]
    have hmem : L[i] ∈ L := List.getElem_mem hi'
    unfold stepM
    by_cases hc : (decide (L.length < 2 * cntM ms (atM ms L[i]) L) && (!(foldM ms L i).2 || decide ((foldM ms L i).1 < atM ms L[i]))) = true
    · rw [if_pos hc]
      simp only [Bool.and_eq_true, Bool.or_eq_true, Bool.not_eq_true', decide_eq_true_eq] at hc
      refine ⟨fun _ => ⟨⟨L[i], hmem, rfl⟩, hc.1⟩, fun x hx hg => ⟨rfl, ?_⟩, fun h => by cases h⟩
      rw [List.take_succ_eq_append_getElem hi'] at hx
      rcases List.mem_append.1 hx with hx | hx
      · obtain ⟨a, b⟩ := h2 x hx hg
        rcases hc.2 with h | h
        · rw [h] at a; cases a
        · show atM ms x ≤ atM ms L[i]; omega
      · simp at hx; subst hx; exact Int.le_refl _
    · rw [if_neg hc]
      refine ⟨h1, fun x hx hg => ?_, h3⟩
      rw [List.take_succ_eq_append_getElem hi'] at hx
      rcases List.mem_append.1 hx with hx | hx
      · exact h2 x hx hg
      · simp at hx
        subst hx
        simp only [Bool.and_eq_true, Bool.or_eq_true, Bool.not_eq_true', decide_eq_true_eq, not_and, not_or] at hc
        obtain ⟨a, b⟩ := hc hg
        exact ⟨by simpa using a, by omega⟩

theorem match_ref (c : Int) (ms : List Int) : refM c ms = matchI c ms := by
  unfold refM matchI
  generalize upTo (msk c) 7 = L
  by_cases h0 : L = []
  · subst h0; rfl
  rw [if_neg h0]
  have hpos : 0 < L.length := List.length_pos_iff.2 h0
  generalize hS : sortBy cmpD (L.map (atM ms)) = S
  have hperm := sort_perm (L.map (atM ms))
  have hsorted := sort_desc (L.map (atM ms))
  rw [hS] at hperm hsorted
  have hlen : S.length = L.length := by rw [hperm.length_eq, List.length_map]
  have hk : L.length / 2 < S.length := by omega
  have hget : S.getD (L.length / 2) 0 = S[L.length / 2] := by simp [List.getD_eq_getElem?_getD, hk]
  rw [hget]
  obtain ⟨f1, f2, f3⟩ := foldM_says ms L L.length (Nat.le_refl _)
  rw [List.take_length] at f2
  have hcnt : ∀ v, cntM ms v L = S.countP fun x => decide (v ≤ x) := fun v => by rw [cntM_count, hperm.countP_eq]
  obtain ⟨x, hx, hxv⟩ := List.mem_map.1 (hperm.mem_iff.1 (List.getElem_mem hk))
  have hg : good ms L (atM ms x) := by
    unfold good
    rw [hxv, hcnt]
    have := count_ge hsorted hk
    omega
  obtain ⟨g1, g2⟩ := f2 x hx hg
  obtain ⟨_, g3⟩ := f1 g1
  rw [hxv] at g2
  have : ¬ S[L.length / 2] < (foldM ms L L.length).1 := by
    intro hlt
    have := count_gt hsorted hk hlt
    unfold good at g3
    rw [hcnt] at g3
    omega
  omega

end Go.Proofs.Ytnephacfnbcdeaa
