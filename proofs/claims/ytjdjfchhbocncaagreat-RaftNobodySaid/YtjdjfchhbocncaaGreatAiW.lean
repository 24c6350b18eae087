/- Values as cells, and parts of them laid; a struct or an array of its text. -/
import Derived.Test.YtjdjfchhbocncaaGreatAiC
namespace Go.AI
set_option linter.unusedVariables false

theorem run_mapM_any {P : Program} {α β : Type} (f : α → Sem β) (g : α → β) (w : World) : ∀ (l : List α), (∀ x ∈ l, (f x).run P w = .ok (g x) w) → (l.mapM f).run P w = .ok (l.map g) w := by
  intro l
  induction l with
  | nil => intro _; simp
  | cons x l ih =>
    intro h
    have h1 := h x (List.mem_cons_self ..)
    have h2 := ih fun y hy => h y (List.mem_cons_of_mem _ hy)
    simp [List.mapM_cons, h1, h2]

theorem getD_append {α : Type} (l m : List α) (d : α) (i : Nat) : (l ++ m).getD i d = if i < l.length then l.getD i d else m.getD (i - l.length) d := by
  simp only [List.getD_eq_getElem?_getD]
  split
  · rename_i h; rw [List.getElem?_append_left h]
  · rename_i h; rw [List.getElem?_append_right (by omega)]



theorem allCell_get : ∀ {cs : List AV}, allCell cs = true → ∀ i, i < cs.length → (cs.getD i .undef).cell = true := by
  intro cs
  induction cs with
  | nil => intro _ i hi; exact absurd hi (Nat.not_lt_zero i)
  | cons v l ih =>
    intro h i hi
    simp only [allCell, Bool.and_eq_true] at h
    cases i with
    | zero => simpa using h.1
    | succ i => simpa using ih h.2 i (by simpa using hi)

section
variable {w : World} {Wr : Nat → Prop} {ρ : Nat → Option (Nat × Nat)} {objs : List AObj}

theorem toCells_ok {y : TY} {x : AV} {v : Value} {cs : List AV} (h : RelV w Wr ρ objs x v) (hc : toCells y x = some cs) :
    v.cells.size = y.size ∧ cs.length = y.size ∧ (∀ i, i < cs.length → RelV w Wr ρ objs (cs.getD i .undef) (v.cells.getD i undef)) ∧ ∀ u ∈ v.cells.toList, u.oneCell' = true := by
  unfold toCells at hc
  split at hc
  · split at hc
    · rename_i l
      split at hc
      · rename_i hb
        cases hc
        simp only [Bool.and_eq_true, decide_eq_true_eq] at hb
        cases h with
        | agg _ vs hl hr =>
          refine ⟨by show vs.size = _; omega, hb.1, hr, fun u hu => ?_⟩
          obtain ⟨i, hi, rfl⟩ := List.mem_iff_getElem.1 hu
          have hi' : i < vs.size := by simpa [Value.cells] using hi
          have := (hr i (by omega)).one (allCell_get hb.2 i (by omega))
          simp only [Array.getD_eq_getD_getElem?, hi', Array.getElem?_eq_getElem, Option.getD_some] at this
          simpa [Value.cells] using this.1
      · cases hc
    · rename_i ds
      split at hc
      · rename_i hb
        cases hc
        have hb := of_decide_eq_true hb
        cases h with
        | ar _ vs hl hr =>
          refine ⟨by show vs.size = _; omega, by simpa using hb, fun i hi => ?_, fun u hu => ?_⟩
          · have hi' : i < ds.length := by simpa using hi
            have e1 : (ds.map AV.d).getD i .undef = .d (ds.getD i .nilp) := by simp [List.getD_eq_getElem?_getD, hi']
            rw [e1]
            exact .d _ _ (hr i hi')
          · obtain ⟨i, hi, rfl⟩ := List.mem_iff_getElem.1 hu
            have hi' : i < vs.size := by simpa [Value.cells] using hi
            have := (hr i (by omega)).one.1
            simp only [Array.getD_eq_getD_getElem?, hi', Array.getElem?_eq_getElem, Option.getD_some] at this
            simpa [Value.cells] using this
      · cases hc
    · cases hc
  · split at hc
    · rename_i hb
      cases hc
      simp only [Bool.and_eq_true, decide_eq_true_eq] at hb
      obtain ⟨h1, h2⟩ := h.one hb.1
      rw [h2]
      refine ⟨by simp [hb.2], by simp [hb.2], fun i hi => ?_, fun u hu => ?_⟩
      · have : i = 0 := by simpa using hi
        subst this
        simpa using h
      · simp at hu; rw [hu]; exact h1
    · cases hc

theorem allD_ok : ∀ {cs : List AV} {ds : List D}, allD cs = some ds → ds.length = cs.length ∧ ∀ i, i < cs.length → ∀ v, RelV w Wr ρ objs (cs.getD i .undef) v → RelD w Wr (ds.getD i .nilp) v := by
  intro cs
  induction cs with
  | nil => intro ds h; cases h; exact ⟨rfl, fun i hi => absurd hi (Nat.not_lt_zero i)⟩
  | cons x l ih =>
    intro ds h
    have two : ∀ d, (match allD l with | some m => some (d :: m) | none => none) = some ds → (∀ v, RelV w Wr ρ objs x v → RelD w Wr d v) →
        ds.length = (x :: l).length ∧ ∀ i, i < (x :: l).length → ∀ v, RelV w Wr ρ objs ((x :: l).getD i .undef) v → RelD w Wr (ds.getD i .nilp) v := by
      intro d h hx
      cases hm : allD l with
      | none => rw [hm] at h; cases h
      | some m =>
        rw [hm] at h
        cases h
        obtain ⟨h1, h2⟩ := ih hm
        refine ⟨by simp [h1], fun i hi v hv => ?_⟩
        cases i with
        | zero => exact hx v (by simpa using hv)
        | succ i => simpa using h2 i (by simpa using hi) v (by simpa using hv)
    cases x <;> simp only [allD] at h <;> first | (cases h; done) | skip
    case d d => exact two d h fun v hv => by cases hv with | d _ _ h => exact h
    case nils => exact two .nilsl h fun v hv => by cases hv with | nils => exact .nilsl

theorem setR_length {α : Type} (l : List α) (o : Nat) (m : List α) (h : o + m.length ≤ l.length) : (setR l o m).length = l.length := by
  simp [setR]; omega

theorem setR_get {α : Type} (l : List α) (o : Nat) (m : List α) (d : α) (h : o + m.length ≤ l.length) (j : Nat) : (setR l o m).getD j d = if o ≤ j ∧ j < o + m.length then m.getD (j - o) d else l.getD j d := by
  unfold setR
  rw [List.append_assoc, getD_append]
  have hlt : (l.take o).length = o := by simp; omega
  rw [hlt]
  split
  · rename_i h1
    rw [if_neg (by omega)]
    simp only [List.getD_eq_getElem?_getD]
    rw [List.getElem?_take_of_lt h1]
  · rename_i h1
    rw [getD_append]
    split
    · rw [if_pos (by omega)]
    · rw [if_neg (by omega)]
      simp only [List.getD_eq_getElem?_getD, List.getElem?_drop]
      congr 2; omega
end

theorem fold_over : ∀ (l : List Value) (k off : Nat) (cells : Array Value), (l.zipIdx k).foldl (fun cs (p : Value × Nat) => cs.setIfInBounds (off + p.2) p.1) cells = over cells (off + k) l := by
  intro l
  induction l with
  | nil => intro k off cells; rfl
  | cons v l ih =>
    intro k off cells
    rw [List.zipIdx_cons, List.foldl_cons, ih]
    rfl

theorem foldA_over (vs : Array Value) (off : Nat) (cells : Array Value) : vs.zipIdx.foldl (fun cs (p : Value × Nat) => cs.setIfInBounds (off + p.2) p.1) cells = over cells off vs.toList := by
  have := fold_over vs.toList 0 off cells
  rw [Nat.add_zero] at this
  rw [← this, ← Array.foldl_toList]
  simp


section
variable {F : Fr} {ρ : Nat → Option (Nat × Nat)} {σ : AS} {a : Act} {w : World} (h : Rel F ρ σ a w)
include h

theorem buildA_ok {pl : Nat → Option (Nat × TY)} {pc : Nat → Option (Nat × Nat)} (hpl : ∀ i off y, pl i = some (off, y) → pc i = some (off, y.size)) : ∀ (parts : List (Nat × Operand)) (c : Array Value) (cells cells' : List AV), cells.length = c.size →
    (∀ i, i < cells.length → RelV w (Wrt F ρ σ.objs) ρ σ.objs (cells.getD i .undef) (c.getD i undef)) → buildA pl σ.eval parts cells = some cells' →
    ∃ c', Instr.fill pc c (parts.map fun (i, x) => (i, a.eval x)) = some c' ∧ cells'.length = c'.size ∧ ∀ i, i < cells'.length → RelV w (Wrt F ρ σ.objs) ρ σ.objs (cells'.getD i .undef) (c'.getD i undef) := by
  intro parts
  induction parts with
  | nil => intro c cells cells' hl hr hb; cases hb; exact ⟨c, rfl, hl, hr⟩
  | cons p parts ih =>
    obtain ⟨i, x⟩ := p
    intro c cells cells' hl hr hb
    simp only [buildA] at hb
    split at hb
    · rename_i off y hp
      split at hb
      · rename_i cs hcs
        split at hb
        · rename_i hin
          have hin := of_decide_eq_true hin
          obtain ⟨h1, h2, h3, h4⟩ := toCells_ok (eval_ok h x) hcs
          have hsz : (a.eval x).cells.toList.length = cs.length := by rw [Array.length_toList, h1, h2]
          obtain ⟨c', g1, g2, g3⟩ := ih (over c off (a.eval x).cells.toList) (setR cells off cs) cells' (by rw [setR_length _ _ _ hin, over_size]; exact hl) (fun j hj => by
            rw [setR_length _ _ _ hin] at hj
            rw [setR_get _ _ _ _ hin, over_get _ _ _ _ (by rw [hsz]; omega), hsz]
            split
            · have := h3 (j - off) (by omega)
              have e2 : (a.eval x).cells.toList.getD (j - off) undef = (a.eval x).cells.getD (j - off) undef := by
                simp [List.getD_eq_getElem?_getD, Array.getD_eq_getD_getElem?]
              rw [e2]; exact this
            · exact hr j hj) hb
          refine ⟨c', ?_, g2, g3⟩
          simp only [List.map_cons, Instr.fill, hpl _ _ _ hp]
          rw [if_neg (by simp [h1]; omega), foldA_over]
          exact g1
        · cases hb
      · cases hb
    · cases hb
end

end Go.AI
