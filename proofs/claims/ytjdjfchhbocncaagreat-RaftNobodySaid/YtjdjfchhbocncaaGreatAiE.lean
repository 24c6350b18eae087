/- Regions, in the text's order and in whatever order is drawn. -/
import Derived.Test.YtjdjfchhbocncaaGreatAiP
namespace Go.AI
set_option linter.unusedVariables false

/-! ### One operation with its guard -/

theorem yield_bool {F : Fr} {ρ : Nat → Option (Nat × Nat)} {σ : AS} {a : Act} {w : World} (h : Rel F ρ σ a w) {ops : Array Oper} {j : Nat} {b : Bool}
    (hy : yieldOf ops σ j = .d (.bool b)) : yielded ops a.tmps j = some b := by
  unfold yieldOf at hy
  unfold yielded
  cases hd : (ops[j]?).bind (·.dst) with
  | none => rw [hd] at hy; cases hy
  | some t =>
    rw [hd] at hy
    simp only at hy
    have ht := h.tm t
    rw [hy] at ht
    have hv := relD_bool ht
    have : a.tmps[t]? = some (.bool b) := by
      rw [Array.getD_eq_getD_getElem?] at hv
      cases hg : a.tmps[t]? with
      | none => rw [hg] at hv; cases hv
      | some v => rw [hg] at hv; simpa using hv
    simp [this]

theorem relV_skip {w : World} {Wr : Nat → Prop} {ρ : Nat → Option (Nat × Nat)} {objs : List AObj} {v : Value} (h : RelV w Wr ρ objs .skip v) : v = undef := by
  cases h; rfl

theorem yield_skip {F : Fr} {ρ : Nat → Option (Nat × Nat)} {σ : AS} {a : Act} {w : World} (h : Rel F ρ σ a w) {ops : Array Oper} {j : Nat}
    (hy : yieldOf ops σ j = .skip) : yielded ops a.tmps j = none := by
  unfold yieldOf at hy
  unfold yielded
  cases hd : (ops[j]?).bind (·.dst) with
  | none => rfl
  | some t =>
    rw [hd] at hy
    simp only at hy
    have ht := h.tm t
    rw [hy] at ht
    have hv : a.tmps.getD t undef = undef := relV_skip ht
    rw [Array.getD_eq_getD_getElem?] at hv
    cases hg : a.tmps[t]? with
    | none => simp [hg]
    | some v => rw [hg] at hv; simp at hv; subst hv; simp [hg, undef]

section
variable {P : Program} {T : Nat → Option TY} {tbl : Tbl} (hT : TOk P T) (ht : TblOk P tbl) {Fe : Fence} {n : Nat} (hFe : Wide Fe)
include hT ht hFe

theorem aExec_ok {F : Fr} {ρ : Nat → Option (Nat × Nat)} {σ : AS} {a : Act} {w : World} (h : Rel F ρ σ a w) {o : Oper} (hd : ∀ t, o.dst = some t → t < F.nt) {r : AV × List AObj}
    (hv : aExec T tbl o.op σ.eval σ.objs = some r) : OpOk P Fe n F o (σ.res o.dst r) a w := by
  unfold aExec at hv
  split at hv
  · cases hv2 : aVal T tbl o.op σ.eval σ.objs with
    | none => rw [hv2] at hv; cases hv
    | some v => rw [hv2] at hv; cases hv; exact aVal_ok hT ht hFe h hd hv2
  · exact aDo_ok h hT ht hFe hd hv

theorem astep_ok {F : Fr} {ρ : Nat → Option (Nat × Nat)} {σ τ : AS} {a : Act} {w : World} (h : Rel F ρ σ a w) {ops : Array Oper} {i : Nat} {o : Oper} (ho : ops[i]? = some o)
    (hd : ∀ t, o.dst = some t → t < F.nt) (hs : astep T tbl ops o σ = some τ) (K : Act → World → Prop) (Q : Exit → Act → World → Prop)
    (hK : ∀ ρ' a' w', Rel F ρ' τ a' w' → K a' w') : wpOpIn Fe n P ops Q i K a w := by
  unfold wpOpIn
  rw [ho]
  simp only
  have skips : Rel F ρ (σ.puto o.dst .skip) (a.put o.dst undef) w := h.puto hd .skip
  unfold astep at hs
  cases hr : astepR T tbl ops o σ with
  | none => rw [hr] at hs; cases hs
  | some r =>
  rw [hr] at hs
  simp only [Option.map_some, Option.some.injEq] at hs
  subst hs
  unfold astepR at hr
  split at hr
  · rename_i hg
    simp only [Region.wanted, hg, if_true]
    exact aExec_ok hT ht hFe h hd hr K Q hK
  · rename_i j want hg
    split at hr
    · rename_i b hy
      have hyl := yield_bool h hy
      split at hr
      · rename_i hb
        have : Region.wanted o (yielded ops a.tmps) = true := by simp [Region.wanted, hg, hyl, hb]
        rw [if_pos this]
        exact aExec_ok hT ht hFe h hd hr K Q hK
      · rename_i hb
        cases hr
        have : ¬ Region.wanted o (yielded ops a.tmps) = true := by simp [Region.wanted, hg, hyl, hb]
        rw [if_neg this]
        exact ⟨fun f _ => hFe.fn f, hK _ _ _ skips⟩
    · rename_i hy
      cases hr
      have hyl := yield_skip h hy
      have : ¬ Region.wanted o (yielded ops a.tmps) = true := by simp [Region.wanted, hg, hyl]
      rw [if_neg this]
      exact ⟨fun f _ => hFe.fn f, hK _ _ _ skips⟩
    · cases hr

end

/-! ### States that read alike -/

structure Eqv (σ τ : AS) : Prop where
  get : ∀ t, σ.get t = τ.get t
  objs : σ.objs = τ.objs

theorem Eqv.refl (σ : AS) : Eqv σ σ := ⟨fun _ => rfl, rfl⟩
theorem Eqv.symm {σ τ : AS} (h : Eqv σ τ) : Eqv τ σ := ⟨fun t => (h.get t).symm, h.objs.symm⟩
theorem Eqv.trans {σ τ υ : AS} (h : Eqv σ τ) (k : Eqv τ υ) : Eqv σ υ := ⟨fun t => (h.get t).trans (k.get t), h.objs.trans k.objs⟩
theorem Eqv.eval {σ τ : AS} (h : Eqv σ τ) : σ.eval = τ.eval := by
  funext x
  cases x <;> simp [AS.eval, h.get]

theorem Eqv.rel {F : Fr} {ρ : Nat → Option (Nat × Nat)} {σ τ : AS} {a : Act} {w : World} (e : Eqv σ τ) (h : Rel F ρ σ a w) : Rel F ρ τ a w := by
  obtain ⟨h1, h2, h3, h4⟩ := h
  obtain ⟨hg, ho⟩ := e
  rw [ho] at h3 h4
  exact ⟨h1, h2, fun t => by rw [← hg t]; exact h3 t, h4⟩

theorem get_puto (σ : AS) (d : Option Nat) (v : AV) (t : Nat) : (σ.puto d v).get t = if d = some t then v else σ.get t := by
  cases d with
  | none => simp [AS.puto]
  | some s => simp [AS.puto, AS.put, AS.get, look]

theorem objs_puto (σ : AS) (d : Option Nat) (v : AV) : (σ.puto d v).objs = σ.objs := by cases d <;> rfl

theorem Eqv.puto {σ τ : AS} (h : Eqv σ τ) (d : Option Nat) (v : AV) : Eqv (σ.puto d v) (τ.puto d v) :=
  ⟨fun t => by rw [get_puto, get_puto, h.get], by rw [objs_puto, objs_puto, h.objs]⟩

theorem res_eq (σ : AS) (d : Option Nat) (r : AV × List AObj) (t : Nat) : (σ.res d r).get t = if d = some t then r.1 else σ.get t := by
  unfold AS.res
  rw [get_puto]
  rfl
theorem objs_res (σ : AS) (d : Option Nat) (r : AV × List AObj) : (σ.res d r).objs = r.2 := by unfold AS.res; rw [objs_puto]

theorem Eqv.res {σ τ : AS} (h : Eqv σ τ) (d : Option Nat) (r : AV × List AObj) : Eqv (σ.res d r) (τ.res d r) :=
  ⟨fun t => by rw [res_eq, res_eq, h.get], by rw [objs_res, objs_res]⟩

theorem Eqv.yield {σ τ : AS} (h : Eqv σ τ) (ops : Array Oper) (j : Nat) : yieldOf ops σ j = yieldOf ops τ j := by
  unfold yieldOf
  split
  · exact h.get _
  · rfl

section
variable {T : Nat → Option TY} {tbl : Tbl} {ops : Array Oper}

theorem Eqv.step {σ τ σ' : AS} (h : Eqv σ τ) {o : Oper} (hs : astep T tbl ops o σ = some σ') : ∃ τ', astep T tbl ops o τ = some τ' ∧ Eqv σ' τ' := by
  have he : astepR T tbl ops o τ = astepR T tbl ops o σ := by
    unfold astepR
    rw [← h.eval, ← h.objs]
    split
    · rfl
    · rw [← h.yield]
  unfold astep at hs ⊢
  rw [he]
  cases hr : astepR T tbl ops o σ with
  | none => rw [hr] at hs; cases hs
  | some r => rw [hr] at hs; cases hs; exact ⟨_, rfl, h.res _ _⟩

theorem Eqv.steps : ∀ (l : List Oper) {σ τ σ' : AS}, Eqv σ τ → asteps T tbl ops l σ = some σ' → ∃ τ', asteps T tbl ops l τ = some τ' ∧ Eqv σ' τ' := by
  intro l
  induction l with
  | nil => intro σ τ σ' h hs; cases hs; exact ⟨τ, rfl, h⟩
  | cons o l ih =>
    intro σ τ σ' h hs
    simp only [asteps] at hs ⊢
    cases h1 : astep T tbl ops o σ with
    | none => rw [h1] at hs; cases hs
    | some σ1 =>
      rw [h1] at hs
      obtain ⟨τ1, h2, h3⟩ := h.step h1
      obtain ⟨τ', h4, h5⟩ := ih h3 hs
      exact ⟨τ', by rw [h2]; exact h4, h5⟩
end

end Go.AI
