/- Memory: what becomes of the objects where a block is made or written. -/
import Derived.Test.YtjdjfchhbocncaaGreatAiB
namespace Go.AI
set_option linter.unusedVariables false

theorem alloc_heap_old (w : World) (o : Obj) (b : Nat) (h : b < w.heap.size) : (w.alloc o).heap[b]? = w.heap[b]? := by
  show (w.heap.push o)[b]? = _
  rw [Array.getElem?_push, if_neg (by omega)]
theorem alloc_heap_new' (w : World) (o : Obj) : (w.alloc o).heap[w.heap.size]? = some o := by
  show (w.heap.push o)[w.heap.size]? = _
  rw [Array.getElem?_push, if_pos rfl]
theorem alloc_size (w : World) (o : Obj) : (w.alloc o).heap.size = w.heap.size + 1 := by
  show (w.heap.push o).size = _
  simp

theorem frm_alloc (Wr : Nat → Prop) (w : World) (o : Obj) : Frm Wr w (w.alloc o) :=
  ⟨rfl, rfl, rfl, by rw [alloc_size]; omega, fun b hb _ => alloc_heap_old w o b hb, fun b c e f h => ⟨c, f, by rw [alloc_heap_old w o b (heap_lt h)]; exact h, rfl⟩⟩

/-- A block of cells is written anew. -/
def putCells (w : World) (b : Nat) (c : Array Value) (e : TypeId) (f : Nat × Nat) : World := { w with heap := w.heap.setIfInBounds b (.cells c e f) }

theorem put_heap_same {w : World} {b : Nat} (hb : b < w.heap.size) (c : Array Value) (e : TypeId) (f : Nat × Nat) : (putCells w b c e f).heap[b]? = some (.cells c e f) := by
  simp [putCells, hb]
theorem put_heap_other {w : World} {b k : Nat} (h : k ≠ b) (c : Array Value) (e : TypeId) (f : Nat × Nat) : (putCells w b c e f).heap[k]? = w.heap[k]? := by
  simp [putCells, Array.getElem?_setIfInBounds_ne (Ne.symm h)]
theorem put_size (w : World) (b : Nat) (c : Array Value) (e : TypeId) (f : Nat × Nat) : (putCells w b c e f).heap.size = w.heap.size := by
  simp [putCells]

theorem frm_put {Wr : Nat → Prop} {w : World} {b : Nat} {c c' : Array Value} {e : TypeId} {f : Nat × Nat} (h : w.heap[b]? = some (.cells c e f)) (hs : c'.size = c.size) (hw : Wr b) : Frm Wr w (putCells w b c' e f) := by
  refine ⟨rfl, rfl, rfl, by rw [put_size]; exact Nat.le_refl _, fun k hk hn => put_heap_other (fun e => hn (by rw [e]; exact hw)) _ _ _, fun k ck ek fk hk => ?_⟩
  by_cases hkb : k = b
  · subst hkb
    rw [h] at hk
    cases hk
    exact ⟨c', f, put_heap_same (heap_lt h) _ _ _, hs⟩
  · exact ⟨ck, fk, by rw [put_heap_other hkb]; exact hk, rfl⟩

theorem setCell_put {w : World} {b o : Nat} {c : Array Value} {e : TypeId} {f : Nat × Nat} (h : w.heap[b]? = some (.cells c e f)) (v : Value) : w.setCell ⟨b, o, none⟩ v = putCells w b (c.setIfInBounds o v) e f := by
  unfold World.setCell putCells
  congr 1
  apply Array.ext_getElem?
  intro i
  rw [Array.getElem?_modify, Array.getElem?_setIfInBounds]
  by_cases hi : b = i
  · subst hi
    have h1 : w.heap[b]'(heap_lt h) = .cells c e f := (Array.getElem?_eq_some_iff.1 h).2
    simp [heap_lt h, h1]
  · simp [hi]

theorem put_put (w : World) (b : Nat) (c c' : Array Value) (e : TypeId) (f : Nat × Nat) : putCells (putCells w b c e f) b c' e f = putCells w b c' e f := by
  simp [putCells, Array.setIfInBounds_setIfInBounds]

theorem cell_of_heap {w : World} {b o : Nat} {c : Array Value} {e : TypeId} {f : Nat × Nat} (h : w.heap[b]? = some (.cells c e f)) (ho : o < c.size) : w.cell? ⟨b, o, none⟩ = some (c.getD o undef) := by
  simp [World.cell?, h, Array.getD_eq_getD_getElem?, ho]

/-- Values that fill one cell. -/
def AV.cell : AV → Bool
  | .agg _ | .ar _ | .tup _ | .skip | .undef | .ub => false
  | _ => true

theorem RelD.one {w : World} {Wr : Nat → Prop} {x : D} {v : Value} (h : RelD w Wr x v) : v.oneCell' = true ∧ v.cells = #[v] := by
  cases h <;> exact ⟨rfl, rfl⟩

theorem RelV.one {w : World} {Wr : Nat → Prop} {ρ : Nat → Option (Nat × Nat)} {objs : List AObj} {x : AV} {v : Value} (h : RelV w Wr ρ objs x v) (hc : x.cell = true) : v.oneCell' = true ∧ v.cells = #[v] := by
  cases h with
  | d x v h => exact h.one
  | win id off len gen v o ho hg hs h => obtain ⟨p, cap, rfl⟩ := hs; exact ⟨rfl, rfl⟩
  | ptr id gen row col v o ho hg hs h => obtain ⟨a, rfl⟩ := hs; exact ⟨rfl, rfl⟩
  | rptr => exact ⟨rfl, rfl⟩
  | fn => exact ⟨rfl, rfl⟩
  | nils => exact ⟨rfl, rfl⟩
  | uc v h => exact h
  | agg => cases hc
  | ar => cases hc
  | tup => cases hc
  | skip => cases hc
  | undef => cases hc
  | ub => cases hc
  | mp id gen v o ho hg hs h => obtain ⟨b, rfl⟩ := hs; exact ⟨rfl, rfl⟩

/-- The heap's part of what states say goes on, where one object came or changed, and nothing else that is known. -/
theorem RelH.change {F : Fr} {ρ ρ' : Nat → Option (Nat × Nat)} {objs objs' : List AObj} {w w' : World} (h : RelH F ρ objs w) (id : Nat)
    (hf : Frm (Wrt F ρ objs) w w') (hw : ∀ b, b < w.heap.size → ¬ Wrt F ρ objs b → ¬ Wrt F ρ' objs' b) (he : Ext objs ρ objs' ρ')
    (hoth : ∀ k o, objs'[k]? = some o → k ≠ id → objs[k]? = some o ∧ ρ' k = ρ k ∧ ∀ b δ, ρ k = some (b, δ) → w'.heap[b]? = w.heap[b]?)
    (hnew : ∀ o, objs'[id]? = some o → RelO w' (Wrt F ρ' objs') ρ' objs' id o ∧ ∀ b δ, ρ' id = some (b, δ) → ¬ F.Am b ∧ (F.Bor b ∨ F.w0.heap.size ≤ b) ∧
      ∀ k o' δ', objs'[k]? = some o' → k ≠ id → ρ' k ≠ some (b, δ'))
    (hf0 : Frm F.Bor F.w0 w') : RelH F ρ' objs' w' := by
  refine ⟨fun k o ho => ?_, fun k k' o o' b δ δ' ho ho' hρ hρ' => ?_, fun k o b δ ho hρ => ?_, h.am, hf0, h.ext.trans he⟩
  · by_cases hk : k = id
    · subst hk; exact (hnew o ho).1
    · obtain ⟨ho1, hρ1, hb1⟩ := hoth k o ho hk
      obtain ⟨hr, hl⟩ := h.ob k o ho1
      refine ⟨hr, ?_⟩
      rw [hρ1]
      cases hρk : ρ k with
      | none => rw [hρk] at hl; exact hl
      | some p =>
        obtain ⟨b, δ⟩ := p
        rw [hρk] at hl
        exact hl.stay (hb1 b δ hρk) hf hw he
  · by_cases hk : k = id
    · by_cases hk' : k' = id
      · rw [hk, hk']
      · subst hk
        exact absurd hρ' (((hnew o ho).2 b δ hρ).2.2 k' o' δ' ho' hk')
    · by_cases hk' : k' = id
      · subst hk'
        exact absurd hρ (((hnew o' ho').2 b δ' hρ').2.2 k o δ ho hk)
      · obtain ⟨ho1, hρ1, _⟩ := hoth k o ho hk
        obtain ⟨ho2, hρ2, _⟩ := hoth k' o' ho' hk'
        exact h.inj k k' o o' b δ δ' ho1 ho2 (hρ1 ▸ hρ) (hρ2 ▸ hρ')
  · by_cases hk : k = id
    · subst hk
      exact ⟨((hnew o ho).2 b δ hρ).1, ((hnew o ho).2 b δ hρ).2.1⟩
    · obtain ⟨ho1, hρ1, _⟩ := hoth k o ho hk
      exact h.own k o b δ ho1 (hρ1 ▸ hρ)

theorem Rel.change {F : Fr} {ρ ρ' : Nat → Option (Nat × Nat)} {σ : AS} {objs' : List AObj} {a : Act} {w w' : World} (h : Rel F ρ σ a w)
    (hf : Frm (Wrt F ρ σ.objs) w w') (hw : ∀ b, b < w.heap.size → ¬ Wrt F ρ σ.objs b → ¬ Wrt F ρ' objs' b) (he : Ext σ.objs ρ objs' ρ') (hh : RelH F ρ' objs' w') : Rel F ρ' ⟨σ.tmps, objs'⟩ a w' :=
  ⟨h.nt, h.ds.stay h.hp hf, fun t => (h.tm t).stay hf hw he, hh⟩

theorem wrt_lt {F : Fr} {ρ : Nat → Option (Nat × Nat)} {objs : List AObj} {w : World} (h : RelH F ρ objs w) {b : Nat} (hb : Wrt F ρ objs b) : b < w.heap.size := by
  rcases hb with hw | ⟨id, ob, δ, ho, hρ⟩
  · exact Nat.lt_of_lt_of_le (h.am b hw) h.frm.size
  · have := (h.ob id ob ho).lies
    rw [hρ] at this
    exact this.lt

/-- Where an object's block is known. -/
def upd (ρ : Nat → Option (Nat × Nat)) (id : Nat) (p : Option (Nat × Nat)) : Nat → Option (Nat × Nat) := fun k => if k = id then p else ρ k

/-- A block is made, and is an object of the walk's. -/
theorem Rel.new {F : Fr} {ρ : Nat → Option (Nat × Nat)} {σ : AS} {a : Act} {w : World} (h : Rel F ρ σ a w) {o : AObj} {c : Array Value} {e : TypeId} {f : Nat × Nat}
    (hrow : ∀ r ∈ o.rows, r.length = o.sz) (hfr : ∀ i, i < c.size → ¬ (f.1 ≤ i ∧ i < f.2)) (hsz : o.rows.length * o.sz ≤ c.size)
    (hc : ∀ i j, i < o.rows.length → j < o.sz → RelV w (Wrt F ρ σ.objs) ρ σ.objs (acell o.rows i j) (c.getD (i * o.sz + j) undef)) (hm : o.isMap = false := by rfl) :
    Rel F (upd ρ σ.objs.length (some (w.heap.size, 0))) ⟨σ.tmps, σ.objs ++ [o]⟩ a (w.alloc (.cells c e f)) ∧ Ext σ.objs ρ (σ.objs ++ [o]) (upd ρ σ.objs.length (some (w.heap.size, 0))) := by
  have hold : ∀ k o', σ.objs[k]? = some o' → k ≠ σ.objs.length := fun k o' hk e => by
    have := (List.getElem?_eq_some_iff.1 hk).1; omega
  have hget : ∀ k o', σ.objs[k]? = some o' → (σ.objs ++ [o])[k]? = some o' := fun k o' hk => by
    rw [List.getElem?_append_left (List.getElem?_eq_some_iff.1 hk).1]; exact hk
  have hget' : ∀ k o', (σ.objs ++ [o])[k]? = some o' → k ≠ σ.objs.length → σ.objs[k]? = some o' := fun k o' hk hne => by
    have hlt := (List.getElem?_eq_some_iff.1 hk).1
    simp at hlt
    rwa [List.getElem?_append_left (by omega)] at hk
  have hext : Ext σ.objs ρ (σ.objs ++ [o]) (upd ρ σ.objs.length (some (w.heap.size, 0))) :=
    ⟨fun k o' hk => ⟨o', hget k o' hk, Nat.le_refl _, fun _ => ⟨rfl, rfl, by simp [upd, hold k o' hk]⟩⟩⟩
  have hwr : ∀ b, b < w.heap.size → ¬ Wrt F ρ σ.objs b → ¬ Wrt F (upd ρ σ.objs.length (some (w.heap.size, 0))) (σ.objs ++ [o]) b := by
    rintro b hb hn (ha | ⟨k, o', δ, hk, hρ⟩)
    · exact hn (.inl ha)
    · by_cases hk' : k = σ.objs.length
      · simp [upd, hk'] at hρ; omega
      · simp [upd, hk'] at hρ
        exact hn (.inr ⟨k, o', δ, hget' k o' hk hk', hρ⟩)
  have hfrm := frm_alloc (Wrt F ρ σ.objs) w (.cells c e f)
  refine ⟨h.change hfrm hwr hext (h.hp.change σ.objs.length hfrm hwr hext (fun k o' hk hne => ⟨hget' k o' hk hne, by simp [upd, hne], fun b δ hρ => ?_⟩) (fun o' ho' => ?_) ?_), hext⟩
  · exact alloc_heap_old _ _ _ (wrt_lt h.hp (.inr ⟨k, o', δ, hget' k o' hk hne, hρ⟩))
  · have : o' = o := by simp at ho'; exact ho'.symm
    subst this
    refine ⟨⟨hrow, ?_⟩, fun b δ hρ => ?_⟩
    · simp only [upd, if_true]
      refine .mk hm ⟨c, e, f, alloc_heap_new' _ _, fun i hi => ?_, by omega, fun i j hi hj => ?_⟩
      · unfold World.frozen?
        rw [alloc_heap_new']
        have := hfr i hi
        obtain ⟨f1, f2⟩ := f
        simpa using this
      · rw [Nat.zero_add]; exact (hc i j hi hj).stay hfrm hwr hext
    · simp [upd] at hρ
      obtain ⟨rfl, rfl⟩ := hρ
      refine ⟨fun ha => ?_, .inr h.hp.frm.size, fun k o'' δ' hk hne hρk => ?_⟩
      · have := h.hp.am _ ha; have := h.hp.frm.size; omega
      · simp [upd, hne] at hρk
        have := wrt_lt h.hp (.inr ⟨k, o'', δ', hget' k o'' hk hne, hρk⟩)
        omega
  · exact h.hp.frm.trans (frm_alloc F.Bor w _) (fun _ _ h => h)

/-- An object's block is written; the object stays of its shape. -/
theorem Rel.write {F : Fr} {ρ : Nat → Option (Nat × Nat)} {σ : AS} {a : Act} {w : World} (h : Rel F ρ σ a w) {id : Nat} {o o' : AObj} (ho : σ.objs[id]? = some o) {b δ : Nat} (hρ : ρ id = some (b, δ))
    {c c' : Array Value} {e : TypeId} {f : Nat × Nat} (hb : w.heap[b]? = some (.cells c e f)) (hcs : c'.size = c.size) (hsz : o'.sz = o.sz) (hgen : o'.gen = o.gen) (hlen : o'.rows.length = o.rows.length)
    (hrow : ∀ r ∈ o'.rows, r.length = o'.sz)
    (hc : ∀ i j, i < o'.rows.length → j < o'.sz → RelV w (Wrt F ρ σ.objs) ρ σ.objs (acell o'.rows i j) (c'.getD (δ + (i * o'.sz + j)) undef)) (hm : o.isMap = false := by rfl) (hm' : o'.isMap = false := by rfl) :
    Rel F ρ ⟨σ.tmps, σ.objs.set id o'⟩ a (putCells w b c' e f) ∧ Ext σ.objs ρ (σ.objs.set id o') ρ := by
  have hlt := (List.getElem?_eq_some_iff.1 ho).1
  have hget : ∀ k, k ≠ id → (σ.objs.set id o')[k]? = σ.objs[k]? := fun k hk => List.getElem?_set_ne (Ne.symm hk)
  have hgetid : (σ.objs.set id o')[id]? = some o' := by simp [hlt]
  have hext : Ext σ.objs ρ (σ.objs.set id o') ρ := ⟨fun k ok hk => by
    by_cases hki : k = id
    · subst hki
      rw [ho] at hk; cases hk
      exact ⟨o', hgetid, by omega, fun _ => ⟨hsz.symm, hlen.symm, rfl⟩⟩
    · exact ⟨ok, (hget k hki).trans hk, Nat.le_refl _, fun _ => ⟨rfl, rfl, rfl⟩⟩⟩
  have hw0 : Wrt F ρ σ.objs b := .inr ⟨id, o, δ, ho, hρ⟩
  have hwr : ∀ x, x < w.heap.size → ¬ Wrt F ρ σ.objs x → ¬ Wrt F ρ (σ.objs.set id o') x := by
    rintro x hx hn (ha | ⟨k, ok, δk, hk, hρk⟩)
    · exact hn (.inl ha)
    · by_cases hki : k = id
      · subst hki; exact hn (.inr ⟨k, o, δk, ho, hρk⟩)
      · exact hn (.inr ⟨k, ok, δk, (hget k hki) ▸ hk, hρk⟩)
  have hfrm : Frm (Wrt F ρ σ.objs) w (putCells w b c' e f) := frm_put hb hcs hw0
  obtain ⟨hr1, hr2⟩ := h.hp.ob id o ho
  rw [hρ] at hr2
  obtain ⟨c0, e0, f0, g1, g2, g3, g4⟩ := hr2.cells hm
  rw [hb] at g1
  cases g1
  have hown := h.hp.own id o b δ ho hρ
  refine ⟨h.change hfrm hwr hext (h.hp.change id hfrm hwr hext (fun k ok hk hne => ?_) (fun o'' ho'' => ?_) ?_), hext⟩
  · rw [hget k hne] at hk
    refine ⟨hk, rfl, fun bk δk hρk => put_heap_other (fun e => ?_) _ _ _⟩
    subst e
    exact hne (h.hp.inj k id ok o _ δk δ hk ho hρk hρ)
  · rw [hgetid] at ho''
    cases ho''
    refine ⟨⟨hrow, ?_⟩, fun bk δk hρk => ?_⟩
    · rw [hρ]
      refine .mk hm' ⟨c', e, f, put_heap_same (heap_lt hb) _ _ _, fun i hi => ?_, by rw [hcs, hsz, hlen]; exact g3, fun i j hi hj => (hc i j hi hj).stay hfrm hwr hext⟩
      have := g2 i (by omega)
      unfold World.frozen? at this ⊢
      rw [put_heap_same (heap_lt hb)]
      rw [hb] at this
      exact this
    · rw [hρ] at hρk
      cases hρk
      refine ⟨hown.1, hown.2, fun k ok δ' hk hne hρk => ?_⟩
      rw [hget k hne] at hk
      exact hne (h.hp.inj k id ok o b δ' δ hk ho hρk hρ)
  · refine h.hp.frm.trans (Wr' := fun x => x = b) (frm_put hb hcs rfl) fun x hx hxb => ?_
    subst hxb
    rcases hown.2 with h1 | h1
    · exact h1
    · omega

end Go.AI
namespace Go.AI

/-- An object is another one from now on, in the block where it lay; its old slices and pointers are no more. -/
theorem Rel.regen {F : Fr} {ρ : Nat → Option (Nat × Nat)} {σ : AS} {a : Act} {w : World} (h : Rel F ρ σ a w) {id : Nat} {o o' : AObj} (ho : σ.objs[id]? = some o) {b δ δ' : Nat} (hρ : ρ id = some (b, δ))
    {c c' : Array Value} {e : TypeId} {f : Nat × Nat} (hb : w.heap[b]? = some (.cells c e f)) (hcs : c'.size = c.size) (hgen : o.gen < o'.gen)
    (hrow : ∀ r ∈ o'.rows, r.length = o'.sz) (hfit : δ' + o'.rows.length * o'.sz ≤ c.size)
    (hc : ∀ i j, i < o'.rows.length → j < o'.sz → RelV w (Wrt F ρ σ.objs) ρ σ.objs (acell o'.rows i j) (c'.getD (δ' + (i * o'.sz + j)) undef)) (hm : o.isMap = false := by rfl) (hm' : o'.isMap = false := by rfl) :
    Rel F (upd ρ id (some (b, δ'))) ⟨σ.tmps, σ.objs.set id o'⟩ a (putCells w b c' e f) ∧ Ext σ.objs ρ (σ.objs.set id o') (upd ρ id (some (b, δ'))) := by
  have hlt := (List.getElem?_eq_some_iff.1 ho).1
  have hget : ∀ k, k ≠ id → (σ.objs.set id o')[k]? = σ.objs[k]? := fun k hk => List.getElem?_set_ne (Ne.symm hk)
  have hgetid : (σ.objs.set id o')[id]? = some o' := by simp [hlt]
  have hext : Ext σ.objs ρ (σ.objs.set id o') (upd ρ id (some (b, δ'))) := ⟨fun k ok hk => by
    by_cases hki : k = id
    · subst hki
      rw [ho] at hk; cases hk
      exact ⟨o', hgetid, by omega, fun h => by omega⟩
    · exact ⟨ok, (hget k hki).trans hk, Nat.le_refl _, fun _ => ⟨rfl, rfl, by simp [upd, hki]⟩⟩⟩
  have hw0 : Wrt F ρ σ.objs b := .inr ⟨id, o, δ, ho, hρ⟩
  have hwr : ∀ x, x < w.heap.size → ¬ Wrt F ρ σ.objs x → ¬ Wrt F (upd ρ id (some (b, δ'))) (σ.objs.set id o') x := by
    rintro x hx hn (ha | ⟨k, ok, δk, hk, hρk⟩)
    · exact hn (.inl ha)
    · by_cases hki : k = id
      · subst hki
        simp [upd] at hρk
        exact hn (by rw [← hρk.1]; exact hw0)
      · simp [upd, hki] at hρk
        exact hn (.inr ⟨k, ok, δk, (hget k hki) ▸ hk, hρk⟩)
  have hfrm : Frm (Wrt F ρ σ.objs) w (putCells w b c' e f) := frm_put hb hcs hw0
  obtain ⟨hr1, hr2⟩ := h.hp.ob id o ho
  rw [hρ] at hr2
  obtain ⟨c0, e0, f0, g1, g2, g3, g4⟩ := hr2.cells hm
  rw [hb] at g1
  cases g1
  have hown := h.hp.own id o b δ ho hρ
  refine ⟨h.change hfrm hwr hext (h.hp.change id hfrm hwr hext (fun k ok hk hne => ?_) (fun o'' ho'' => ?_) ?_), hext⟩
  · rw [hget k hne] at hk
    refine ⟨hk, by simp [upd, hne], fun bk δk hρk => put_heap_other (fun e => ?_) _ _ _⟩
    subst e
    exact hne (h.hp.inj k id ok o _ δk δ hk ho hρk hρ)
  · rw [hgetid] at ho''
    cases ho''
    refine ⟨⟨hrow, ?_⟩, fun bk δk hρk => ?_⟩
    · simp only [upd, if_true]
      refine .mk hm' ⟨c', e, f, put_heap_same (heap_lt hb) _ _ _, fun i hi => ?_, by rw [hcs]; exact hfit, fun i j hi hj => (hc i j hi hj).stay hfrm hwr hext⟩
      have := g2 i (by omega)
      unfold World.frozen? at this ⊢
      rw [put_heap_same (heap_lt hb)]
      rw [hb] at this
      exact this
    · simp [upd] at hρk
      obtain ⟨rfl, rfl⟩ := hρk
      refine ⟨hown.1, hown.2, fun k ok δ' hk hne hρk => ?_⟩
      rw [hget k hne] at hk
      simp [upd, hne] at hρk
      exact hne (h.hp.inj k id ok o b δ' δ hk ho hρk hρ)
  · refine h.hp.frm.trans (Wr' := fun x => x = b) (frm_put hb hcs rfl) fun x hx hxb => ?_
    subst hxb
    rcases hown.2 with h1 | h1
    · exact h1
    · omega

/-- An object is another one from now on, in a new block. -/
theorem Rel.move {F : Fr} {ρ : Nat → Option (Nat × Nat)} {σ : AS} {a : Act} {w : World} (h : Rel F ρ σ a w) {id : Nat} {o o' : AObj} (ho : σ.objs[id]? = some o) {c : Array Value} {e : TypeId} {f : Nat × Nat}
    (hgen : o.gen < o'.gen) (hrow : ∀ r ∈ o'.rows, r.length = o'.sz) (hfr : ∀ i, i < c.size → ¬ (f.1 ≤ i ∧ i < f.2)) (hfit : o'.rows.length * o'.sz ≤ c.size)
    (hc : ∀ i j, i < o'.rows.length → j < o'.sz → RelV w (Wrt F ρ σ.objs) ρ σ.objs (acell o'.rows i j) (c.getD (i * o'.sz + j) undef)) (hm' : o'.isMap = false := by rfl) :
    Rel F (upd ρ id (some (w.heap.size, 0))) ⟨σ.tmps, σ.objs.set id o'⟩ a (w.alloc (.cells c e f)) ∧ Ext σ.objs ρ (σ.objs.set id o') (upd ρ id (some (w.heap.size, 0))) := by
  have hlt := (List.getElem?_eq_some_iff.1 ho).1
  have hget : ∀ k, k ≠ id → (σ.objs.set id o')[k]? = σ.objs[k]? := fun k hk => List.getElem?_set_ne (Ne.symm hk)
  have hgetid : (σ.objs.set id o')[id]? = some o' := by simp [hlt]
  have hext : Ext σ.objs ρ (σ.objs.set id o') (upd ρ id (some (w.heap.size, 0))) := ⟨fun k ok hk => by
    by_cases hki : k = id
    · subst hki
      rw [ho] at hk; cases hk
      exact ⟨o', hgetid, by omega, fun h => by omega⟩
    · exact ⟨ok, (hget k hki).trans hk, Nat.le_refl _, fun _ => ⟨rfl, rfl, by simp [upd, hki]⟩⟩⟩
  have hwr : ∀ x, x < w.heap.size → ¬ Wrt F ρ σ.objs x → ¬ Wrt F (upd ρ id (some (w.heap.size, 0))) (σ.objs.set id o') x := by
    rintro x hx hn (ha | ⟨k, ok, δk, hk, hρk⟩)
    · exact hn (.inl ha)
    · by_cases hki : k = id
      · simp [upd, hki] at hρk; omega
      · simp [upd, hki] at hρk
        exact hn (.inr ⟨k, ok, δk, (hget k hki) ▸ hk, hρk⟩)
  have hfrm := frm_alloc (Wrt F ρ σ.objs) w (.cells c e f)
  refine ⟨h.change hfrm hwr hext (h.hp.change id hfrm hwr hext (fun k ok hk hne => ?_) (fun o'' ho'' => ?_) ?_), hext⟩
  · rw [hget k hne] at hk
    exact ⟨hk, by simp [upd, hne], fun bk δk hρk => alloc_heap_old _ _ _ (wrt_lt h.hp (.inr ⟨k, ok, δk, hk, hρk⟩))⟩
  · rw [hgetid] at ho''
    cases ho''
    refine ⟨⟨hrow, ?_⟩, fun b δ hρ => ?_⟩
    · simp only [upd, if_true]
      refine .mk hm' ⟨c, e, f, alloc_heap_new' _ _, fun i hi => ?_, by omega, fun i j hi hj => ?_⟩
      · unfold World.frozen?
        rw [alloc_heap_new']
        have := hfr i hi
        obtain ⟨f1, f2⟩ := f
        simpa using this
      · rw [Nat.zero_add]; exact (hc i j hi hj).stay hfrm hwr hext
    · simp [upd] at hρ
      obtain ⟨rfl, rfl⟩ := hρ
      refine ⟨fun ha => ?_, .inr h.hp.frm.size, fun k o'' δ' hk hne hρk => ?_⟩
      · have := h.hp.am _ ha; have := h.hp.frm.size; omega
      · rw [hget k hne] at hk
        simp [upd, hne] at hρk
        have := wrt_lt h.hp (.inr ⟨k, o'', δ', hk, hρk⟩)
        omega
  · exact h.hp.frm.trans (frm_alloc F.Bor w _) (fun _ _ h => h)

/-! ### Runs over a block -/

theorem run_loadCells_block {P : Program} {w : World} {b o n : Nat} {c : Array Value} {e : TypeId} {f : Nat × Nat} (h : w.heap[b]? = some (.cells c e f)) (hn : o + n ≤ c.size) :
    (loadCells ⟨b, o, none⟩ n).run P w = .ok ((List.range n).map fun j => c.getD (o + j) undef).toArray w := by
  refine run_loadCells w _ n (fun j => c.getD (o + j) undef) fun j hj => ?_
  have : (⟨b, o, none⟩ : Addr).add j = ⟨b, o + j, none⟩ := by
    unfold Addr.add
    split
    · rename_i h0; rw [h0]; rfl
    · rfl
  rw [this]
  exact cell_of_heap h (by omega)

/-- Cells with some of them written anew. -/
def over (c : Array Value) (o : Nat) : List Value → Array Value
  | [] => c
  | v :: vs => over (c.setIfInBounds o v) (o + 1) vs

theorem over_size : ∀ (vs : List Value) (c : Array Value) (o : Nat), (over c o vs).size = c.size := by
  intro vs
  induction vs with
  | nil => intro c o; rfl
  | cons v vs ih => intro c o; simp [over, ih]

theorem over_get : ∀ (vs : List Value) (c : Array Value) (o i : Nat), o + vs.length ≤ c.size → (over c o vs).getD i undef = if o ≤ i ∧ i < o + vs.length then vs.getD (i - o) undef else c.getD i undef := by
  intro vs
  induction vs with
  | nil => intro c o i _; simp [over]; intro h1 h2; omega
  | cons v vs ih =>
    intro c o i h
    simp only [List.length_cons] at h
    have h0 := ih (c.setIfInBounds o v) (o + 1) i (by simp; omega)
    simp only [over, List.length_cons]
    rw [h0]
    by_cases h1 : o + 1 ≤ i ∧ i < o + 1 + vs.length
    · rw [if_pos h1, if_pos (by omega)]
      have : i - o = (i - (o + 1)) + 1 := by omega
      rw [this, List.getD_cons_succ]
    · rw [if_neg h1]
      by_cases h2 : i = o
      · subst h2
        rw [if_pos (by omega)]
        have : i < c.size := by omega
        simp [Array.getD_eq_getD_getElem?, this]
      · rw [if_neg (by omega)]
        simp [Array.getD_eq_getD_getElem?, Array.getElem?_setIfInBounds_ne (Ne.symm h2)]

theorem run_storeCells_block {P : Program} {b : Nat} {e : TypeId} {f : Nat × Nat} : ∀ (vs : List Value) (w : World) (c : Array Value) (o i : Nat), w.heap[b]? = some (.cells c e f) → o + i + vs.length ≤ c.size →
    (∀ j, j < c.size → ¬ (f.1 ≤ j ∧ j < f.2)) → (∀ v ∈ vs, v.oneCell' = true) → (storeCells ⟨b, o, none⟩ vs i).run P w = .ok () (putCells w b (over c (o + i) vs) e f) := by
  intro vs
  induction vs with
  | nil =>
    intro w c o i h _ _ _
    have : putCells w b c e f = w := by
      unfold putCells
      have h1 : w.heap.setIfInBounds b (.cells c e f) = w.heap := by
        apply Array.ext_getElem?
        intro k
        rw [Array.getElem?_setIfInBounds]
        by_cases hk : b = k
        · subst hk
          have h1 : w.heap[b]'(heap_lt h) = .cells c e f := (Array.getElem?_eq_some_iff.1 h).2
          simp [heap_lt h, h1]
        · simp [hk]
      rw [h1]
    simp [storeCells, over, this]
  | cons v vs ih =>
    intro w c o i h hn hf hone
    simp only [List.length_cons] at hn
    have hcell : w.cell? ⟨b, o + i, none⟩ = some (c.getD (o + i) undef) := cell_of_heap h (by omega)
    have hfz : w.frozen? ⟨b, o + i, none⟩ = false := by
      unfold World.frozen?
      rw [h]
      have := hf (o + i) (by omega)
      obtain ⟨f1, f2⟩ := f
      simpa using this
    have hadd : (⟨b, o, none⟩ : Addr).add i = ⟨b, o + i, none⟩ := by
      unfold Addr.add
      split
      · rename_i h0; rw [h0]; rfl
      · rfl
    have h1 := hone v (List.mem_cons_self ..)
    have hst : (store ⟨b, o + i, none⟩ v).run P w = .ok () (putCells w b (c.setIfInBounds (o + i) v) e f) := by
      rw [← setCell_put h]
      unfold store
      cases v <;> first | (cases h1; done) | simp [Sem.run, hcell, hfz]
    have ih' := ih (putCells w b (c.setIfInBounds (o + i) v) e f) (c.setIfInBounds (o + i) v) o (i + 1) (put_heap_same (heap_lt h) _ _ _) (by simp; omega) (by simpa using hf) (fun x hx => hone x (List.mem_cons_of_mem _ hx))
    simp only [storeCells, hadd, Sem.run_bind, hst, Result.andThen]
    rw [ih', put_put]
    rfl

end Go.AI
