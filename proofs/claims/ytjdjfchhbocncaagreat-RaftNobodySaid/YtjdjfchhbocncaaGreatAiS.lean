/- Blocks that are no cells may turn: what is said of values and objects stays; leaving a function whose loops over functions have ended. -/
import Derived.Test.YtjdjfchhbocncaaGreatAiG
import Derived.RangeFuncLeaves
import Derived.RangeFuncRecord
namespace Go.AI
set_option linter.unusedVariables false

/-- Nothing changed but blocks that are no cells and lie at or beyond B; new ones came. -/
structure Turned (B : Nat) (w w' : World) : Prop where
  os : w'.os = w.os
  tape : w'.tape = w.tape
  output : w'.output = w.output
  size : w.heap.size ≤ w'.heap.size
  old : ∀ b, b < B → b < w.heap.size → w'.heap[b]? = w.heap[b]?
  cells : ∀ (b : Nat) (c : Array Value) (e : TypeId) (f : Nat × Nat), w.heap[b]? = some (.cells c e f) → w'.heap[b]? = some (.cells c e f)

theorem Turned.refl (B : Nat) (w : World) : Turned B w w := ⟨rfl, rfl, rfl, Nat.le_refl _, fun _ _ _ => rfl, fun _ _ _ _ h => h⟩
theorem Turned.trans {B : Nat} {a b c : World} (h : Turned B a b) (k : Turned B b c) : Turned B a c :=
  ⟨k.os.trans h.os, k.tape.trans h.tape, k.output.trans h.output, Nat.le_trans h.size k.size, fun x hx hs => (k.old x hx (Nat.lt_of_lt_of_le hs h.size)).trans (h.old x hx hs), fun x c e f hx => k.cells x c e f (h.cells x c e f hx)⟩

theorem cell_turn {B : Nat} {w w' : World} (h : Turned B w w') {a : Addr} {v : Value} (hc : w.cell? a = some v) : w'.cell? a = some v := by
  have hb : ∃ c e f, w.heap[a.block]? = some (.cells c e f) := by
    unfold World.cell? at hc
    cases hh : w.heap[a.block]? with
    | none => simp [hh] at hc
    | some o =>
      cases o with
      | cells c e f => exact ⟨c, e, f, rfl⟩
      | _ => simp [hh] at hc
  obtain ⟨c, e, f, h1⟩ := hb
  rw [cell_congr ((h.cells _ _ _ _ h1).trans h1.symm)]
  exact hc

theorem RelD.turn {B : Nat} {w w' : World} (ht : Turned B w w') {Wr : Nat → Prop} {x : D} {v : Value} (h : RelD w Wr x v) : RelD w' Wr x v := by
  induction h with
  | bool b => exact .bool b
  | int k n => exact .int k n
  | str l s h => exact .str l s h
  | nilp => exact .nilp
  | nilfn => exact .nilfn
  | nilif => exact .nilif
  | nilmap => exact .nilmap
  | nilsl => exact .nilsl
  | sl0 p cap => exact .sl0 p cap
  | sl rows b off sz cap vs hne h0 hb hsz hc _ hcap ih => exact .sl rows b off sz cap vs hne h0 hb hsz (fun i j hi hj => cell_turn ht (hc i j hi hj)) ih hcap

theorem WinOk.turn {B : Nat} {w w' : World} (ht : Turned B w w') {ρ : Nat → Option (Nat × Nat)} {id : Nat} {o : AObj} {off len : Nat} {v : Value} (h : WinOk w ρ id o off len v) : WinOk w' ρ id o off len v := by
  obtain ⟨hf, p, cap, hv, hl, hp⟩ := h
  refine ⟨hf, p, cap, hv, hl, ?_⟩
  rcases hp with h0 | ⟨b, δ, c, e, f, h1, h2, h3, h4⟩
  · exact .inl h0
  · exact .inr ⟨b, δ, c, e, f, h1, h2, ht.cells _ _ _ _ h3, h4⟩

theorem RelV.turn {B : Nat} {w w' : World} (ht : Turned B w w') {Wr : Nat → Prop} {ρ : Nat → Option (Nat × Nat)} {objs : List AObj} {x : AV} {v : Value} (h : RelV w Wr ρ objs x v) : RelV w' Wr ρ objs x v := by
  induction h with
  | d x v h => exact .d x v (h.turn ht)
  | win id off len gen v o ho hg hs h => exact .win id off len gen v o ho hg hs fun hgen => (h hgen).turn ht
  | ptr id gen row col v o ho hg hs h => exact .ptr id gen row col v o ho hg hs h
  | rptr row j b o vs h0 hb hc hd => exact .rptr row j b o vs h0 hb (fun k hk => cell_turn ht (hc k hk)) fun k hk => (hd k hk).turn ht
  | agg cells vs hl _ ih => exact .agg cells vs hl ih
  | ar ds vs hl h => exact .ar ds vs hl fun i hi => (h i hi).turn ht
  | tup cells vs hl _ ih => exact .tup cells vs hl ih
  | fn f cells vs hl _ ih => exact .fn f cells vs hl ih
  | nils => exact .nils
  | skip => exact .skip
  | undef v => exact .undef v
  | ub b => exact .ub b
  | uc v h => exact .uc v h
  | mp id gen v o ho hg hs h => exact .mp id gen v o ho hg hs h

def MapsStay (w w' : World) : Prop := ∀ (b : Nat) (es : Array MapEntry) (k : Nat), w.heap[b]? = some (.map es k) → w'.heap[b]? = some (.map es k)
def noMaps (objs : List AObj) : Bool := objs.all fun o => !o.isMap
theorem noMaps_get {objs : List AObj} (h : noMaps objs = true) {id : Nat} {o : AObj} (ho : objs[id]? = some o) : o.isMap = false := by
  simp only [noMaps, List.all_eq_true, Bool.not_eq_true'] at h
  exact h o (List.mem_of_getElem? ho)

theorem RelO.turn {B : Nat} {w w' : World} (ht : Turned B w w') {Wr : Nat → Prop} {ρ : Nat → Option (Nat × Nat)} {objs : List AObj} {id : Nat} {o : AObj} (h : RelO w Wr ρ objs id o) (hmp : o.isMap = false ∨ MapsStay w w') : RelO w' Wr ρ objs id o := by
  obtain ⟨hrow, hl⟩ := h
  refine ⟨hrow, ?_⟩
  cases hρ : ρ id with
  | none => rw [hρ] at hl; exact hl
  | some bd =>
    obtain ⟨b, δ⟩ := bd
    rw [hρ] at hl
    by_cases hm : o.isMap = true
    · obtain ⟨l, g, es, k, rfl, k1, k2⟩ := hl.map hm
      rcases hmp with hmp | hmp
      · cases hmp
      · exact ⟨es, k, hmp _ _ _ k1, k2.st, k2.len, fun i x e hx he => ⟨(k2.each i x e hx he).1, (k2.each i x e hx he).2.turn ht⟩⟩
    have hm : o.isMap = false := by simpa using hm
    obtain ⟨c, e, f, k1, k2, k3, k4⟩ := hl.cells hm
    have k5 := ht.cells _ _ _ _ k1
    exact .mk hm ⟨c, e, f, k5, fun i hi => by rw [frozen_congr (a := ⟨b, i, none⟩) (k5.trans k1.symm)]; exact k2 i hi, k3, fun i j hi hj => (k4 i j hi hj).turn ht⟩

theorem Frm.turn {B : Nat} {Wr : Nat → Prop} {w0 w w' : World} (h : Frm Wr w0 w) (ht : Turned B w w') (hB : w0.heap.size ≤ B) : Frm Wr w0 w' :=
  ⟨ht.os.trans h.os, ht.tape.trans h.tape, ht.output.trans h.output, Nat.le_trans h.size ht.size, fun b hb hn => (ht.old b (Nat.lt_of_lt_of_le hb hB) (Nat.lt_of_lt_of_le hb h.size)).trans (h.same b hb hn), fun b c e f hc => by
    obtain ⟨c', f', h1, h2⟩ := h.cells b c e f hc
    exact ⟨c', f', ht.cells _ _ _ _ h1, h2⟩⟩

theorem RelH.turn {B : Nat} {F : Fr} {ρ : Nat → Option (Nat × Nat)} {objs : List AObj} {w w' : World} (h : RelH F ρ objs w) (ht : Turned B w w') (hB : F.w0.heap.size ≤ B) (hmp : noMaps objs = true ∨ MapsStay w w') : RelH F ρ objs w' :=
  ⟨fun id o ho => (h.ob id o ho).turn ht (hmp.imp (fun h => noMaps_get h ho) fun h => h), h.inj, h.own, h.am, h.frm.turn ht hB, h.ext⟩

theorem turned_put {B D : Nat} {w : World} {o o' : Obj} (hD : B ≤ D) (h : w.heap[D]? = some o) (hn : ∀ c e f, o ≠ .cells c e f) : Turned B w (w.putObj D o') := by
  refine ⟨rfl, rfl, rfl, by simp, fun b hb _ => World.putObj_heap_other (by omega), fun b c e f hb => ?_⟩
  have : b ≠ D := fun e' => by subst e'; rw [h] at hb; cases hb; exact hn _ _ _ rfl
  exact (World.putObj_heap_other this).trans hb

theorem stay_put {D : Nat} {w : World} {o o' : Obj} (h : w.heap[D]? = some o) (hn : ∀ es k, o ≠ .map es k) : MapsStay w (w.putObj D o') := by
  intro b es k hb
  have : b ≠ D := fun e' => by subst e'; rw [h] at hb; cases hb; exact hn _ _ rfl
  exact (World.putObj_heap_other this).trans hb

/-- A function is left: the loops over functions that have ended put nothing off. -/
theorem leaves_ok {Fe : Fence} {n : Nat} {P : Program} {fn : Func} {tmps : Array Value} {R : Ending → World → Prop} {B : Nat} : ∀ (Ds : List Nat) (w : World), Ds.Nodup → (∀ D ∈ Ds, B ≤ D ∧ w.heap[D]? = some (.deferred (some []))) →
    (∀ w', Turned B w w' → MapsStay w w' → ∃ v, (results fn tmps).run P w' = .ok v w' ∧ R (.returned v) w') → LeavesInM Fe n P fn tmps R (Ds.map (fun D => ({ target := .collected D, args := #[] } : Deferred))) .returning w := by
  intro Ds
  induction Ds with
  | nil => intro w _ _ h; exact h w (Turned.refl _ _) (fun _ _ _ h => h)
  | cons D Ds ih =>
    intro w hn hD h
    obtain ⟨hB, hd⟩ := hD D (List.mem_cons_self ..)
    have hn' := List.nodup_cons.1 hn
    have ht : Turned B w (w.putObj D (.deferred none)) := turned_put hB hd (by intro c e f h; cases h)
    refine ⟨by simp, .inl ⟨D, _, rfl, run_takeDeferred hd, ih _ hn'.2 (fun D' hD' => ?_) fun w' hw' hm' => h w' (ht.trans hw') fun b es k hb => hm' b es k (stay_put hd (by intro e k h; cases h) b es k hb)⟩⟩
    obtain ⟨h1, h2⟩ := hD D' (List.mem_cons_of_mem _ hD')
    exact ⟨h1, (World.putObj_heap_other (fun (e : D' = D) => hn'.1 (e ▸ hD'))).trans h2⟩

theorem fin_ok {Fe : Fence} {n : Nat} {P : Program} {fn : Func} {R : Ending → World → Prop} {F : Fr} (hds : F.ds = []) {ρ : Nat → Option (Nat × Nat)} {σ : AS} {a : Act} {w : World} (h : Rel F ρ σ a w)
    (hR : ∀ w', Rel F ρ σ { tmps := a.tmps, defers := [] } w' → ∃ v, (results fn a.tmps).run P w' = .ok v w' ∧ R (.returned v) w') : LeavesInM Fe n P fn a.tmps R a.defers .returning w := by
  obtain ⟨Ds, h1, h2, h3⟩ := h.ds.are
  rw [h1, hds, List.append_nil]
  exact leaves_ok (B := F.w0.heap.size) Ds w h2 h3 fun w' ht hm => hR w' ⟨h.nt, Marks.nil hds, fun t => (h.tm t).turn ht, h.hp.turn ht (Nat.le_refl _) (.inr hm)⟩

end Go.AI
