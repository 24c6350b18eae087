/- Rounds of a loop over a function: their frame, and back; what the loop's law owes. -/
import Derived.Test.YtjdjfchhbocncaaGreatAiS
import Derived.RangeFuncWrites
namespace Go.AI
open Go.RowKit
set_option linter.unusedVariables false

/-- The frame that a loop's rounds work in. -/
def roundF (F : Fr) (ρ : Nat → Option (Nat × Nat)) (objs : List AObj) (w : World) : Fr :=
  { nt := F.nt, ds := [], Am := F.Am, Bor := fun b => ∃ id o δ, objs[id]? = some o ∧ ρ id = some (b, δ), w0 := w, o0 := objs, r0 := ρ }

section
variable {F : Fr} {ρ ρ' : Nat → Option (Nat × Nat)} {objs objs' : List AObj} {w w' : World}

theorem RelH.base (h : RelH F ρ objs w) : RelH (roundF F ρ objs w) ρ objs w :=
  ⟨h.ob, h.inj, fun id o b δ ho hr => ⟨(h.own id o b δ ho hr).1, .inl ⟨id, o, δ, ho, hr⟩⟩, fun b hb => Nat.lt_of_lt_of_le (h.am b hb) h.frm.size, Frm.refl _ _, Ext.refl _ _⟩

theorem RelH.unbase (h : RelH F ρ objs w) (k : RelH (roundF F ρ objs w) ρ' objs' w') : RelH F ρ' objs' w' := by
  refine ⟨k.ob, k.inj, fun id o b δ ho hr => ?_, h.am, ?_, h.ext.trans k.ext⟩
  · obtain ⟨h1, h2⟩ := k.own id o b δ ho hr
    refine ⟨h1, ?_⟩
    rcases h2 with ⟨id', o', δ', ho', hr'⟩ | h2
    · exact (h.own id' o' b δ' ho' hr').2
    · exact .inr (Nat.le_trans h.frm.size h2)
  · refine h.frm.trans k.frm fun b hb hB => ?_
    obtain ⟨id', o', δ', ho', hr'⟩ := hB
    rcases (h.own id' o' b δ' ho' hr').2 with h1 | h1
    · exact h1
    · omega

theorem RelH.round_frm (h : RelH F ρ objs w) (k : RelH (roundF F ρ objs w) ρ' objs' w') : Frm (Wrt F ρ objs) w w' :=
  k.frm.mono fun b _ hb => .inr hb

theorem RelH.round_wrt (h : RelH F ρ objs w) (k : RelH (roundF F ρ objs w) ρ' objs' w') : ∀ b, b < w.heap.size → ¬ Wrt F ρ objs b → ¬ Wrt F ρ' objs' b := by
  rintro b hb hn (ha | ⟨id, o, δ, ho, hr⟩)
  · exact hn (.inl ha)
  · rcases (k.own id o b δ ho hr).2 with h1 | h1
    · exact hn (.inr h1)
    · exact absurd hb (Nat.not_lt.2 h1)

/-- What is no cells stays. -/
theorem RelH.round_keeps (h : RelH F ρ objs w) (k : RelH (roundF F ρ objs w) ρ' objs' w') {b : Nat} {o : Obj} (hb : w.heap[b]? = some o) (ho : o.isCells = false) (hm : noMaps objs = true ∨ ∀ es k, o ≠ .map es k) : w'.heap[b]? = some o := by
  refine (k.frm.same b (heap_lt hb) ?_).trans hb
  rintro ⟨id, ob, δ, h1, h2⟩
  have := (h.ob id ob h1).lies
  rw [h2] at this
  by_cases hmo : ob.isMap = true
  · rcases hm with hm | hm
    · have h5 := noMaps_get hm h1
      rw [h5] at hmo; cases hmo
    · obtain ⟨l, g, es, k', rfl, h3, _⟩ := this.map hmo
      rw [hb] at h3
      cases h3
      exact hm _ _ rfl
  · obtain ⟨c, e, f, h3, _⟩ := this.cells (by simpa using hmo)
    rw [hb] at h3
    cases h3
    cases ho

theorem turned_of_grown {B : Nat} {W W' : World} {row : Option Nat} (hg : W.grownBy W' row) (hr : ∀ r, row = some r → B ≤ r ∧ ∃ o : Obj, W.heap[r]? = some o ∧ o.isCells = false) : Turned B W W' :=
  ⟨hg.os, hg.tape, hg.output, hg.size, fun b hb hs => hg.block b hs (fun e => by have := (hr b e.symm).1; omega), fun b c e f hb => (hg.block b (heap_lt hb) (fun e' => by
    obtain ⟨_, o, ho, hc⟩ := hr b e'.symm
    rw [hb] at ho; cases ho; cases hc)).trans hb⟩

theorem Rel.turn {B : Nat} {σ : AS} {a : Act} (h : Rel F ρ σ a w) (hd : F.ds = []) (ha : a.defers = []) (ht : Turned B w w') (hB : F.w0.heap.size ≤ B) (hm : noMaps σ.objs = true) : Rel F ρ σ a w' :=
  ⟨h.nt, by rw [ha]; exact Marks.nil hd, fun t => (h.tm t).turn ht, h.hp.turn ht hB (.inl hm)⟩

/-- Behind the loop: one mark more. -/
theorem Rel.behind {σ τ : AS} {a b : Act} {D : Nat} (h : Rel F ρ σ a w) (k : Rel (roundF F ρ σ.objs w) ρ' τ b w') (hD : w.heap.size ≤ D) (hd : w'.heap[D]? = some (.deferred (some []))) :
    Rel F ρ' τ { tmps := b.tmps, defers := { target := .collected D, args := #[] } :: a.defers } w' := by
  refine ⟨k.nt, ?_, k.tm, h.hp.unbase k.hp⟩
  obtain ⟨Ds, h1, h2, h3⟩ := h.ds.are
  refine ⟨D :: Ds, by rw [h1]; rfl, List.nodup_cons.2 ⟨fun hm => ?_, h2⟩, fun D' hD' => ?_⟩
  · have := heap_lt (h3 D hm).2; omega
  · rcases List.mem_cons.1 hD' with rfl | hm
    · exact ⟨Nat.le_trans h.hp.frm.size hD, hd⟩
    · exact ⟨(h3 D' hm).1, h.hp.round_keeps k.hp (h3 D' hm).2 rfl (.inr fun _ _ h => by cases h)⟩

/-- A round's end: the loop's own slots stand as they stood at its head. -/
theorem Rel.round_end {σ σ' : AS} {a a' : Act} (h : Rel F ρ σ a w) (hd : F.ds = []) (ha : a.defers = []) (k : Rel (roundF F ρ σ.objs w) ρ' σ' a' w') : Rel F ρ' ⟨σ.tmps, σ'.objs⟩ a w' :=
  ⟨h.nt, by rw [ha]; exact Marks.nil hd, fun t => (h.tm t).stay (h.hp.round_frm k.hp) (h.hp.round_wrt k.hp) k.hp.ext, h.hp.unbase k.hp⟩

end

theorem Wide.inRound {Fe : Fence} (h : Wide Fe) (l : Nat) : Wide (Fe.inRound l) := ⟨h.fn, h.depth, fun {n P f args w R} hc => h.calls (n := n) hc⟩

def toCode : Exit → Option Code
  | .ret => some .ret
  | .exit id => some (.exit id)
  | .goto t => some (.goto t)
  | _ => none

theorem kpC_t {p : Addr} {v : Value} {A B C : World} (h : KpC p v A B) (k : KpC p v B C) : KpC p v A C := fun h0 => k (h h0)
theorem kpC_b {p : Addr} {v : Value} (W : World) (l : Nat) (o o' : Obj) (hl : W.heap[l]? = some o) (ho : o.isCells = false) : KpC p v W (W.putObj l o') := by
  intro h
  have hne : p.block ≠ l := by
    intro e
    unfold World.cell? at h
    rw [e, hl] at h
    cases o <;> first | (cases ho; done) | simp at h
  exact (cell_congr (World.putObj_heap_other hne)).trans h

end Go.AI
