/- A region whose order is drawn: all orders that its edges allow come to the same. -/
import Derived.Test.YtjdjfchhbocncaaGreatAiF
namespace Go.AI
set_option linter.unusedVariables false

def bef (ops : Array Oper) : Array Nat := Region.before ops

/-- The edges go back, what stands ahead stands ahead of it by edges, and operations that no edge orders have nothing to do with each other. -/
def regOk (tbl : Tbl) (ops : Array Oper) : Bool :=
  (List.range ops.size).all fun i =>
    decide ((bef ops).getD i 0 < 2 ^ i) && ((ops.getD i default).after.toList.all fun e => !Region.binds .any e || decide (e.on < i)) &&
    (List.range i).all fun j =>
      if ((bef ops).getD i 0).testBit j then (ops.getD i default).after.toList.any fun e => Region.binds .any e && (e.on == j || ((bef ops).getD e.on 0).testBit j)
      else commB tbl ops (ops.getD j default) (ops.getD i default)

def ordB (ops : Array Oper) (j i : Nat) : Bool := ((bef ops).getD i 0).testBit j

theorem regOk_spec {tbl : Tbl} {ops : Array Oper} (h : regOk tbl ops = true) {i : Nat} {o : Oper} (ho : ops[i]? = some o) :
    (∀ e ∈ o.after, Region.binds .any e = true → e.on < i) ∧
    (∀ j p, j < i → ops[j]? = some p → ordB ops j i = true → ∃ e ∈ o.after, Region.binds .any e = true ∧ (e.on = j ∨ ordB ops j e.on = true)) ∧
    (∀ j p, j < i → ops[j]? = some p → ordB ops j i = false → commB tbl ops p o = true) := by
  have hi : i < ops.size := (Array.getElem?_eq_some_iff.1 ho).1
  have hgo : ops.getD i default = o := by simp [Array.getD_eq_getD_getElem?, ho]
  unfold regOk at h
  rw [List.all_eq_true] at h
  have h1 := h i (List.mem_range.2 hi)
  rw [hgo, Bool.and_eq_true, Bool.and_eq_true, List.all_eq_true, List.all_eq_true] at h1
  obtain ⟨⟨_, h2⟩, h3⟩ := h1
  refine ⟨fun e he hb => ?_, fun j p hj hp hord => ?_, fun j p hj hp hord => ?_⟩
  · have := h2 e (by simpa using he)
    simpa [hb] using this
  · have := h3 j (List.mem_range.2 hj)
    unfold ordB at hord
    rw [if_pos hord, List.any_eq_true] at this
    obtain ⟨e, he, hh⟩ := this
    simp only [Bool.and_eq_true, Bool.or_eq_true, beq_iff_eq] at hh
    exact ⟨e, by simpa using he, hh.1, hh.2⟩
  · have := h3 j (List.mem_range.2 hj)
    unfold ordB at hord
    rw [if_neg (by rw [hord]; decide)] at this
    have hgp : ops.getD j default = p := by simp [Array.getD_eq_getD_getElem?, hp]
    rwa [hgp] at this

theorem ord_lt {tbl : Tbl} {ops : Array Oper} (h : regOk tbl ops = true) {i : Nat} (hi : i < ops.size) (j : Nat) (ho : ordB ops j i = true) : j < i := by
  unfold regOk at h
  rw [List.all_eq_true] at h
  have h1 := h i (List.mem_range.2 hi)
  rw [Bool.and_eq_true, Bool.and_eq_true, decide_eq_true_eq] at h1
  obtain ⟨⟨h2, _⟩, _⟩ := h1
  rcases Nat.lt_or_ge j i with hlt | hge
  · exact hlt
  · have : (bef ops).getD i 0 < 2 ^ j := Nat.lt_of_lt_of_le h2 (Nat.pow_le_pow_right (by omega) hge)
    have := Nat.testBit_lt_two_pow this
    unfold ordB at ho
    rw [this] at ho; cases ho

theorem filterMap_congr' {α β : Type} {f g : α → Option β} : ∀ (l : List α), (∀ x ∈ l, f x = g x) → l.filterMap f = l.filterMap g
  | [], _ => rfl
  | x :: l, h => by
    simp only [List.filterMap_cons, h x (List.mem_cons_self ..), filterMap_congr' l fun y hy => h y (List.mem_cons_of_mem _ hy)]

/-- What is still to be carried out, in the text's order. -/
def left (ops : Array Oper) (listed : Array Bool) : List Oper := (List.range ops.size).filterMap fun i => if listed.getD i true = true then none else ops[i]?

theorem left_split {ops : Array Oper} {listed : Array Bool} {i : Nat} {o : Oper} (ho : ops[i]? = some o) (hl : listed.getD i true = false) :
    ∃ A B, left ops listed = A ++ o :: B ∧ left ops (listed.setIfInBounds i true) = A ++ B ∧ ∀ x ∈ A, ∃ j, j < i ∧ ops[j]? = some x ∧ listed.getD j true = false := by
  have hi : i < ops.size := (Array.getElem?_eq_some_iff.1 ho).1
  have hsplit : List.range ops.size = List.range i ++ i :: (List.range' (i + 1) (ops.size - (i + 1))) := by
    have h1 : List.range ops.size = List.range' 0 i ++ List.range' i (ops.size - i) := by
      have h3 : List.range' 0 i ++ List.range' (0 + i) (ops.size - i) = List.range' 0 (i + (ops.size - i)) := List.range'_append_1
      rw [Nat.zero_add] at h3
      rw [List.range_eq_range', h3]
      congr 1; omega
    have h2 : List.range' i (ops.size - i) = i :: List.range' (i + 1) (ops.size - (i + 1)) := by
      have : ops.size - i = (ops.size - (i + 1)) + 1 := by omega
      rw [this, List.range'_succ]
    rw [h1, h2, ← List.range_eq_range']
  refine ⟨(List.range i).filterMap fun j => if listed.getD j true = true then none else ops[j]?, (List.range' (i + 1) (ops.size - (i + 1))).filterMap fun j => if listed.getD j true = true then none else ops[j]?, ?_, ?_, ?_⟩
  · unfold left
    rw [hsplit, List.filterMap_append, List.filterMap_cons]
    simp [hl, ho]
  · unfold left
    rw [hsplit, List.filterMap_append, List.filterMap_cons]
    have hli : i < listed.size := by
      rcases Nat.lt_or_ge i listed.size with h | h
      · exact h
      · have : listed.getD i true = true := by simp [Array.getD_eq_getD_getElem?, Array.getElem?_eq_none h]
        rw [this] at hl; cases hl
    have h0 : (listed.setIfInBounds i true).getD i true = true := by simp [Array.getD_eq_getD_getElem?, hli]
    have hne : ∀ j, j ≠ i → (listed.setIfInBounds i true).getD j true = listed.getD j true := fun j hj => getD_set_ne true (Ne.symm hj)
    simp only [h0, if_true]
    congr 1
    · exact filterMap_congr' _ fun j hj => by rw [hne j (by have := List.mem_range.1 hj; omega)]
    · exact filterMap_congr' _ fun j hj => by rw [hne j (by have := List.mem_range'_1.1 hj; omega)]
  · intro x hx
    obtain ⟨j, hj, hx⟩ := List.mem_filterMap.1 hx
    split at hx
    · cases hx
    · rename_i h
      exact ⟨j, List.mem_range.1 hj, hx, by simpa using h⟩

section
variable {P : Program} {T : Nat → Option TY} {tbl : Tbl} (hT : TOk P T) (ht : TblOk P tbl) {Fe : Fence} {n : Nat} (hFe : Wide Fe)
include hT ht hFe

theorem any_ok {F : Fr} {ops : Array Oper} (hreg : regOk tbl ops = true) (hdst : ∀ (i : Nat) (o : Oper), ops[i]? = some o → ∀ t, o.dst = some t → t < F.nt) {Q : Exit → Act → World → Prop} {τ : AS}
    (hQ : ∀ ρ' a' w', Rel F ρ' τ a' w' → Q .normal a' w') : ∀ (fuel : Nat) (listed : Array Bool) (σ : AS) (ρ : Nat → Option (Nat × Nat)) (a : Act) (w : World),
    listed.size = ops.size → (∀ i j, i < ops.size → listed.getD i false = true → ordB ops j i = true → listed.getD j false = true) → (left ops listed).length ≤ fuel →
    (∃ τ', asteps T tbl ops (left ops listed) σ = some τ' ∧ Eqv τ' τ) → Rel F ρ σ a w → wpAnyIn Fe n P .any ops Q fuel listed a w := by
  have done : ∀ (listed : Array Bool) (σ : AS) (ρ : Nat → Option (Nat × Nat)) (a : Act) (w : World), listed.size = ops.size → Region.ready .any ops listed = [] →
      (∃ τ', asteps T tbl ops (left ops listed) σ = some τ' ∧ Eqv τ' τ) → Rel F ρ σ a w → left ops listed = [] ∧ Q .normal a w := by
    intro listed σ ρ a w hsz hr hst hrel
    have hall : ∀ i, i < ops.size → listed.getD i true = true := by
      intro i
      induction i using Nat.strongRecOn with
      | _ i ih =>
        intro hi
        cases hl : listed.getD i true with
        | true => rfl
        | false =>
          have ho : ops[i]? = some ops[i] := by simp [hi]
          have : i ∈ Region.ready .any ops listed := by
            rw [mem_ready]
            refine ⟨hl, _, ho, fun e he hb => ?_⟩
            have hlt := (regOk_spec hreg ho).1 e he hb
            have h1 := ih e.on hlt (by omega)
            have h2 : e.on < listed.size := by omega
            simp [Array.getD_eq_getD_getElem?, h2] at h1 ⊢
            exact h1
          rw [hr] at this
          cases this
    have hnil : left ops listed = [] := by
      unfold left
      rw [List.filterMap_eq_nil_iff]
      intro i hi
      rw [if_pos (hall i (List.mem_range.1 hi))]
    obtain ⟨τ', h1, h2⟩ := hst
    rw [hnil] at h1
    cases h1
    exact ⟨hnil, hQ ρ _ _ (h2.rel hrel)⟩
  intro fuel
  induction fuel with
  | zero =>
    intro listed σ ρ a w hsz hdown hlen hst hrel
    have hnil : left ops listed = [] := List.eq_nil_of_length_eq_zero (by omega)
    have hr : Region.ready .any ops listed = [] := by
      rw [List.eq_nil_iff_forall_not_mem]
      intro i hi
      obtain ⟨h1, o, ho, _⟩ := mem_ready.1 hi
      obtain ⟨A, B, h2, _⟩ := left_split ho h1
      rw [hnil] at h2
      have := congrArg List.length h2
      simp at this
    exact ⟨hr, (done listed σ ρ a w hsz hr hst hrel).2⟩
  | succ fuel ih =>
    intro listed σ ρ a w hsz hdown hlen hst hrel
    refine ⟨fun hr => (done listed σ ρ a w hsz hr hst hrel).2, fun i hi => ?_⟩
    obtain ⟨hl, o, ho, hpre⟩ := mem_ready.1 hi
    have hilt : i < ops.size := (Array.getElem?_eq_some_iff.1 ho).1
    obtain ⟨A, B, hleft, hleft', hA⟩ := left_split ho hl
    obtain ⟨hs1, hs2, hs3⟩ := regOk_spec hreg ho
    have hcomm : ∀ x ∈ A, commB tbl ops x o = true := by
      intro x hx
      obtain ⟨j, hj, hxj, hlj⟩ := hA x hx
      refine hs3 j x hj hxj ?_
      cases hord : ordB ops j i with
      | false => rfl
      | true =>
        obtain ⟨e, he, hb, hor⟩ := hs2 j x hj hxj hord
        have hon := hpre e he hb
        have hlt := hs1 e he hb
        have hjl : listed.getD j false = true := by
          rcases hor with rfl | hor
          · exact hon
          · exact hdown _ j (by omega) hon hor
        have : j < listed.size := by omega
        simp [Array.getD_eq_getD_getElem?, this] at hjl hlj
        rw [hjl] at hlj; cases hlj
    obtain ⟨τ', hst1, hst2⟩ := hst
    rw [hleft] at hst1
    obtain ⟨τ2, hfr, e2⟩ := steps_front A o B hcomm hst1
    simp only [asteps] at hfr
    cases h1 : astep T tbl ops o σ with
    | none => rw [h1] at hfr; cases hfr
    | some σ1 =>
      rw [h1] at hfr
      refine astep_ok hT ht hFe hrel ho (hdst i o ho) h1 _ Q fun ρ' a' w' hrel' => ?_
      have hsz' : (listed.setIfInBounds i true).size = ops.size := by simp [hsz]
      refine ih _ σ1 ρ' a' w' hsz' ?_ ?_ ?_ hrel'
      · intro p j hp hpl hord
        by_cases hpi : p = i
        · subst hpi
          by_cases hjlt : j < p
          · have hoj : ops[j]? = some ops[j] := by have : j < ops.size := by omega
                                                   simp [this]
            obtain ⟨e, he, hb, hor⟩ := hs2 j _ hjlt hoj hord
            have hon := hpre e he hb
            have hlt := hs1 e he hb
            have hjl : listed.getD j false = true := by
              rcases hor with rfl | hor
              · exact hon
              · exact hdown _ j (by omega) hon hor
            exact getD_set_true hjl
          · by_cases hjp : j = p
            · subst hjp
              have : j < listed.size := by omega
              simp [Array.getD_eq_getD_getElem?, this]
            · exfalso
              exact absurd hord (by
                have := ord_lt hreg hp
                intro h2
                have := this j h2
                omega)
        · rw [getD_set_ne false (Ne.symm hpi)] at hpl
          exact getD_set_true (hdown p j hp hpl hord)
      · rw [hleft'] 
        have := congrArg List.length hleft
        simp at this ⊢
        omega
      · rw [hleft']
        exact ⟨τ2, hfr, e2.symm.trans hst2⟩
end

end Go.AI
