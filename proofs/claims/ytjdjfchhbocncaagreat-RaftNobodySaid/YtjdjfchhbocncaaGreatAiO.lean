/- Appends and copies. -/
import Derived.Test.YtjdjfchhbocncaaGreatAiN
namespace Go.AI
set_option linter.unusedVariables false
set_option linter.unusedSectionVars false

section
variable {P : Program} {T : Nat → Option TY} (hT : TOk P T) {w : World} {Wr : Nat → Prop}

theorem srcT_spec {T : Nat → Option TY} (hT : TOk P T) {t : Nat} (h : srcT T t = true) : (∃ e, P.underlying t = some (.slice e)) ∨ P.underlying t = some .string := by
  unfold srcT at h
  split at h
  · rename_i e _ _ _ ht; exact .inl ⟨_, hT.under ht⟩
  · rename_i _ _ _ ht; exact .inr (hT.under ht)
  · cases h

theorem append_grow_run {t u ty e : TypeId} {i : TypeInfo} {z : Value} (ht : P.underlying t = some (.slice e)) (hu : (∃ e, P.underlying u = some (.slice e)) ∨ P.underlying u = some .string) (hi : P.info? e = some i) (hz : i.zero = some z)
    {base : Option Addr} {sLen sCap n : Nat} {x : Value} {old news : Array Value} (hlen : (Builtin.lenOf x).run P w = .ok n w)
    (hfo : (Builtin.firstCells i.size sLen (.slice base sLen sCap)).run P w.drew = .ok old w.drew) (hf : (Builtin.firstCells i.size n x).run P w.drew = .ok news w.drew)
    (hn : ¬ sLen + n ≤ sCap) (h63 : ((sLen + n : Nat) : Int) ≤ 9223372036854775807) (hfit : Builtin.nextslicecap (sLen + n) sCap * i.bytes ≤ 281474976710656) :
    (Builtin.append_ #[t, u] ty #[.slice base sLen sCap, x]).run P w = .ok (.slice (some ⟨w.heap.size, 0, none⟩) (sLen + n) (grownCap w (sLen + n) sCap e))
      (w.drew.alloc (.cells (old ++ news ++ Builtin.zeroCells z.cells (grownCap w (sLen + n) sCap e - (sLen + n))) e)) := by
  have h63' : ¬ (9223372036854775807 < ((sLen : Int) + (n : Int))) := by omega
  have h48' : ¬ (281474976710656 < Builtin.nextslicecap (sLen + n) sCap * i.bytes) := by omega
  rcases hu with ⟨e', hu⟩ | hu
  · simp [Builtin.append_, run_underlying ht, run_underlying hu, sizeOf, typeInfo, zeroValue, hi, hz, hlen, hn, h63', h48', Question.forced, hf, hfo, newRow, grownCap]
  · simp [Builtin.append_, run_underlying ht, run_underlying hu, sizeOf, typeInfo, zeroValue, hi, hz, hlen, hn, h63', h48', Question.forced, hf, hfo, newRow, grownCap]

include hT

/-- There is room. -/
theorem append_room {t u ty : Nat} {y : TY} (hy : elemT T t = some y) (hu : srcT T u = true) {base : Option Addr} {sLen sCap : Nat} {x : Value} {R : List (List D)} (hx : Src P w Wr x R y.size)
    (hroom : sLen + R.length ≤ sCap) : ∃ vals : List Value, vals.length = R.length * y.size ∧ (∀ v ∈ vals, v.oneCell' = true) ∧ (∀ i j, i < R.length → j < y.size → RelD w Wr (rcell R i j) (vals.getD (i * y.size + j) undef)) ∧
      ∀ w', (∀ a, base = some a → (storeCells (a.add (sLen * y.size)) vals).run P w = .ok () w') → (base = none → w' = w) →
      (Builtin.append_ #[t, u] ty #[.slice base sLen sCap, x]).run P w = .ok (.slice base (sLen + R.length) sCap) w' := by
  obtain ⟨e, hue, hte⟩ := elemT_spec hT hy
  have hud := srcT_spec hT hu
  obtain ⟨hlen, vals, h1, h2, h3, h4, h5⟩ := hx
  refine ⟨vals, h1, h2, h5, fun w' hst hno => ?_⟩
  have hf := h3 R.length (Nat.le_refl _)
  rw [← h1, List.take_length] at hf
  cases base with
  | none =>
    have := hno rfl
    subst this
    rcases hud with ⟨e', hud⟩ | hud
    · simp [Builtin.append_, run_underlying hue, run_underlying hud, hT.sizeOf hte, hlen, hroom, hf]
    · simp [Builtin.append_, run_underlying hue, run_underlying hud, hT.sizeOf hte, hlen, hroom, hf]
  | some a =>
    have := hst a rfl
    rcases hud with ⟨e', hud⟩ | hud
    · simp [Builtin.append_, run_underlying hue, run_underlying hud, hT.sizeOf hte, hlen, hroom, hf, this]
    · simp [Builtin.append_, run_underlying hue, run_underlying hud, hT.sizeOf hte, hlen, hroom, hf, this]

/-- There is none: a new block. -/
theorem append_new {t u ty : Nat} {y : TY} (hy : elemT T t = some y) (hu : srcT T u = true) {base : Option Addr} {sLen sCap : Nat} {x : Value} {R : List (List D)} (hlen : (Builtin.lenOf x).run P w = .ok R.length w) (hb : 0 < y.bytes)
    (hroom : ¬ sLen + R.length ≤ sCap) (hbytes : (sLen + R.length) * y.bytes ≤ 140737488355328) {old : List Value}
    (hof : (Builtin.firstCells y.size sLen (.slice base sLen sCap)).run P w.drew = .ok old.toArray w.drew) (hxd : Src P w.drew Wr x R y.size) :
    ∃ (vals : List Value) (rest : Array Value) (e : TypeId) (cap : Nat), vals.length = R.length * y.size ∧ (∀ i j, i < R.length → j < y.size → RelD w.drew Wr (rcell R i j) (vals.getD (i * y.size + j) undef)) ∧
      sLen + R.length ≤ cap ∧ rest.size = (cap - (sLen + R.length)) * y.size ∧
      (Builtin.append_ #[t, u] ty #[.slice base sLen sCap, x]).run P w = .ok (.slice (some ⟨w.heap.size, 0, none⟩) (sLen + R.length) cap) (w.drew.alloc (.cells (old.toArray ++ vals.toArray ++ rest) e)) := by
  obtain ⟨e, hue, hte⟩ := elemT_spec hT hy
  obtain ⟨_, vals, h1, h2, h3, h4, h5⟩ := hxd
  have hf := h3 R.length (Nat.le_refl _)
  rw [← h1, List.take_length] at hf
  obtain ⟨_, i, hinfo, his, hib, z, hzi, hzo, hzl⟩ := hT e y hte
  have hgrow := growslice_fits (need := sLen + R.length) (old := sCap) (bytes := y.bytes) (by omega) hbytes
  have hsmall : sLen + R.length ≤ 140737488355328 := Nat.le_trans (Nat.le_mul_of_pos_right _ hb) hbytes
  have hrun := append_grow_run (P := P) (w := w) (ty := ty) hue (srcT_spec hT hu) hinfo hzi hlen (by rw [his]; exact hof) (by rw [his]; exact hf) hroom (by omega) (by rw [hib]; exact hgrow)
  exact ⟨vals, _, e, _, h1, h5, grownCap_ge w _ _ e, by simp [Builtin.zeroCells, ← hzo.1, hzl], hrun⟩
end

section
variable {F : Fr} {ρ : Nat → Option (Nat × Nat)} {σ : AS} {a : Act} {w : World} (h : Rel F ρ σ a w)
include h

/-- An array that lies nowhere. -/
theorem new_none (n : Nat) : Rel F (upd ρ σ.objs.length none) ⟨σ.tmps, σ.objs ++ [.arr [] n 1]⟩ a w := by
  have hold : ∀ k o', σ.objs[k]? = some o' → k ≠ σ.objs.length := fun k o' hk e => by
    have := (List.getElem?_eq_some_iff.1 hk).1; omega
  have hget : ∀ k o', σ.objs[k]? = some o' → (σ.objs ++ [AObj.arr [] n 1])[k]? = some o' := fun k o' hk => by
    rw [List.getElem?_append_left (List.getElem?_eq_some_iff.1 hk).1]; exact hk
  have hget' : ∀ k o', (σ.objs ++ [AObj.arr [] n 1])[k]? = some o' → k ≠ σ.objs.length → σ.objs[k]? = some o' := fun k o' hk hne => by
    have hlt := (List.getElem?_eq_some_iff.1 hk).1
    simp at hlt
    rwa [List.getElem?_append_left (by omega)] at hk
  have hext : Ext σ.objs ρ (σ.objs ++ [AObj.arr [] n 1]) (upd ρ σ.objs.length none) :=
    ⟨fun k o' hk => ⟨o', hget k o' hk, Nat.le_refl _, fun _ => ⟨rfl, rfl, by simp [upd, hold k o' hk]⟩⟩⟩
  have hwr : ∀ b, b < w.heap.size → ¬ Wrt F ρ σ.objs b → ¬ Wrt F (upd ρ σ.objs.length none) (σ.objs ++ [AObj.arr [] n 1]) b := by
    rintro b hb hn (ha | ⟨k, o', δ, hk, hρ⟩)
    · exact hn (.inl ha)
    · by_cases hk' : k = σ.objs.length
      · simp [upd, hk'] at hρ
      · simp [upd, hk'] at hρ
        exact hn (.inr ⟨k, o', δ, hget' k o' hk hk', hρ⟩)
  refine h.change (Frm.refl _ _) hwr hext (h.hp.change σ.objs.length (Frm.refl _ _) hwr hext (fun k o' hk hne => ⟨hget' k o' hk hne, by simp [upd, hne], fun _ _ _ => rfl⟩) (fun o' ho' => ?_) h.hp.frm)
  have : o' = .arr [] n 1 := by simp at ho'; exact ho'.symm
  subst this
  exact ⟨⟨by simp [AObj.rows], by simp [upd, AObj.rows]⟩, fun b δ hρ => by simp [upd] at hρ⟩

/-- An array that lies nowhere any more. -/
theorem regen_none {id : Nat} {o : AObj} (ho : σ.objs[id]? = some o) {n g : Nat} (hg : o.gen < g) : Rel F (upd ρ id none) ⟨σ.tmps, σ.objs.set id (.arr [] n g)⟩ a w := by
  have hlt := (List.getElem?_eq_some_iff.1 ho).1
  have hget : ∀ k, k ≠ id → (σ.objs.set id (.arr [] n g))[k]? = σ.objs[k]? := fun k hk => List.getElem?_set_ne (Ne.symm hk)
  have hgetid : (σ.objs.set id (AObj.arr [] n g))[id]? = some (.arr [] n g) := by simp [hlt]
  have hext : Ext σ.objs ρ (σ.objs.set id (.arr [] n g)) (upd ρ id none) := ⟨fun k ok hk => by
    by_cases hki : k = id
    · subst hki
      rw [ho] at hk; cases hk
      exact ⟨_, hgetid, Nat.le_of_lt hg, fun h => absurd h (Nat.ne_of_lt hg)⟩
    · exact ⟨ok, (hget k hki).trans hk, Nat.le_refl _, fun _ => ⟨rfl, rfl, by simp [upd, hki]⟩⟩⟩
  have hwr : ∀ x, x < w.heap.size → ¬ Wrt F ρ σ.objs x → ¬ Wrt F (upd ρ id none) (σ.objs.set id (.arr [] n g)) x := by
    rintro x hx hn (ha | ⟨k, ok, δk, hk, hρk⟩)
    · exact hn (.inl ha)
    · by_cases hki : k = id
      · simp [upd, hki] at hρk
      · simp [upd, hki] at hρk
        exact hn (.inr ⟨k, ok, δk, (hget k hki) ▸ hk, hρk⟩)
  refine h.change (Frm.refl _ _) hwr hext (h.hp.change id (Frm.refl _ _) hwr hext (fun k ok hk hne => ?_) (fun o'' ho'' => ?_) h.hp.frm)
  · rw [hget k hne] at hk
    exact ⟨hk, by simp [upd, hne], fun _ _ _ => rfl⟩
  · rw [hgetid] at ho''
    cases ho''
    exact ⟨⟨by simp [AObj.rows], by simp [upd, AObj.rows]⟩, fun b δ hρ => by simp [upd] at hρ⟩

omit h in
theorem frm_drew (Wr : Nat → Prop) (w : World) : Frm Wr w w.drew := ⟨rfl, rfl, rfl, Nat.le_refl _, fun _ _ _ => rfl, fun b c e f h => ⟨c, f, h, rfl⟩⟩

theorem drew_ok : Rel F ρ σ a w.drew := h.world ⟨rfl, rfl, rfl, Nat.le_refl _, fun _ _ _ => rfl, fun b c e f h => ⟨c, f, h, rfl⟩⟩

theorem arr_len {id : Nat} {rs : List (List D)} {n g : Nat} (ho : σ.objs[id]? = some (.arr rs n g)) {i : Nat} (hi : i < rs.length) : (rs.getD i []).length = n := by
  have := (h.hp.ob id _ ho).rowsz ((rs.getD i []).map .d) (by simp only [AObj.rows]; exact List.mem_map.2 ⟨_, by simp [List.getD_eq_getElem?_getD, hi], rfl⟩)
  simpa [AObj.sz] using this

theorem arr_cell {id : Nat} {rs : List (List D)} {n g : Nat} (ho : σ.objs[id]? = some (.arr rs n g)) {b δ : Nat} (hρ : ρ id = some (b, δ)) :
    ∃ (c : Array Value) (e : TypeId) (f : Nat × Nat), w.heap[b]? = some (.cells c e f) ∧ (∀ i, i < c.size → ¬ (f.1 ≤ i ∧ i < f.2)) ∧ δ + rs.length * n ≤ c.size ∧
      ∀ i j, i < rs.length → j < n → RelD w (Wrt F ρ σ.objs) (rcell rs i j) (c.getD (δ + (i * n + j)) undef) := by
  obtain ⟨c, e, f, hb, hf, hsz, hcell⟩ := obj_cells h.hp ho hρ
  refine ⟨c, e, f, hb, hf, by simpa [AObj.rows, AObj.sz] using hsz, fun i j hi hj => ?_⟩
  have := hcell i j (by simpa [AObj.rows] using hi) hj
  rw [acell_arr _ _ _ _ _ hi (by rw [arr_len h ho hi]; exact hj)] at this
  cases this with | d _ _ h => exact h

variable {P : Program} {T : Nat → Option TY} (hT : TOk P T)
include hT

theorem appendA_ok {t u ty : Nat} {y : TY} (hy : elemT T t = some y) (hu : srcT T u = true) {s x : AV} {vs vx : Value} {R : List (List D)} (hs : RelV w (Wrt F ρ σ.objs) ρ σ.objs s vs) (hx : RelV w (Wrt F ρ σ.objs) ρ σ.objs x vx)
    (hR : srcA x σ.objs = some R) {r : AV} {objs' : List AObj} (hr : appendA y s R σ.objs = some (r, objs')) :
    ∃ cv w' ρ', (Builtin.append_ #[t, u] ty #[vs, vx]).run P w = .ok cv w' ∧ Rel F ρ' ⟨σ.tmps, objs'⟩ a w' ∧ RelV w' (Wrt F ρ' objs') ρ' objs' r cv := by
  have hd := drew_ok h
  have hWd : Wrt F ρ σ.objs = Wrt F ρ σ.objs := rfl
  unfold appendA at hr
  split at hr
  · obtain ⟨⟨hrow, h0, hb, hbytes⟩, heq⟩ := ite_some hr
    cases heq
    cases hs with
    | nils =>
      have hsrc := src_ok (P := P) hT h hx hR h0 hrow
      by_cases hm : R = []
      · subst hm
        obtain ⟨vals, h1, _, _, hrun⟩ := append_room hT (ty := ty) hy hu hsrc (base := none) (sLen := 0) (sCap := 0) (by simp)
        have hv : vals = [] := List.eq_nil_of_length_eq_zero (by simpa using h1)
        subst hv
        refine ⟨_, w, _, hrun w (fun a _ => by simp [storeCells]) (fun _ => rfl), new_none h y.size, ?_⟩
        exact .win _ _ _ _ _ (.arr [] y.size 1) (by simp) (Nat.le_refl _) ⟨_, _, rfl⟩ fun _ => ⟨by simp [AObj.rows], none, 0, rfl, by simp [AObj.rows], .inl rfl⟩
      · have hpos : 0 < R.length := List.length_pos_iff.2 hm
        obtain ⟨vals, rest, e, cap, h1, h2, h3, h4, hrun⟩ := append_new hT (ty := ty) hy hu (base := none) (sLen := 0) (sCap := 0) hsrc.len hb (by omega) (by simpa using hbytes) (old := []) (by
          simp [Builtin.firstCells]) (src_ok (P := P) hT hd (hx.stay (w' := w.drew) (frm_drew _ _) (fun _ _ h => h) (Ext.refl _ _)) hR h0 hrow)
        obtain ⟨ρ', hrel, hrv⟩ := new_arr hd (rs := R) (n := y.size) (c := (#[] : Array Value) ++ vals.toArray ++ rest) (e := e) (f := (0, 0)) (cap := cap) hrow (by intro i _; omega) (by omega) (by
          simp [h1, h4, ← Nat.add_mul]
          have : R.length + (cap - R.length) = cap := by omega
          rw [this]; exact Nat.le_refl _) (fun i j hi hj => by
          have hlt := row_lt hi hj
          have : ((#[] : Array Value) ++ vals.toArray ++ rest).getD (i * y.size + j) undef = vals.getD (i * y.size + j) undef := by
            simp only [Array.getD_eq_getD_getElem?, List.getD_eq_getElem?_getD]
            rw [Array.getElem?_append_left (by simp; omega)]
            simp
          rw [this]
          exact h2 i j hi hj)
        simp only [Nat.zero_add] at hrun
        exact ⟨_, _, ρ', by simpa using hrun, hrel, by simpa using hrv⟩
  · rename_i id off len gen
    split at hr
    · rename_i rs n g ho
      cases hs with
      | win _ _ _ _ _ o' ho' hge hsl hwin =>
        rw [ho] at ho'; cases ho'
        split at hr
        · rename_i hend
          have hend := of_decide_eq_true hend
          obtain ⟨⟨hrow, h0, hb, ⟨hg, hg0⟩, hn, hbytes⟩, heq⟩ := ite_some hr
          cases heq
          subst hn
          obtain ⟨hfit, p, cap, rfl, ⟨_, hcap⟩, hpl⟩ := hwin hg
          have hcap := hcap.resolve_left hg0
          simp only [AObj.rows, AObj.sz, List.length_map] at hfit hcap hpl
          have hsrc := src_ok (P := P) hT h hx hR h0 hrow
          have hlt := (List.getElem?_eq_some_iff.1 ho).1
          have hdl : (rs.drop off).length = len := by simp; omega
          by_cases hroom : len + R.length ≤ cap
          · obtain ⟨vals, h1, hone, hvals, hrun⟩ := append_room hT (ty := ty) hy hu hsrc (base := p) (sLen := len) (sCap := cap) hroom
            rcases hpl with hc0 | ⟨b, δ, c, e, f, hρ, rfl, hbk, hle⟩
            · -- no room at all: nothing is appended
              have hR0 : R = [] := List.eq_nil_of_length_eq_zero (by omega)
              subst hR0
              have hv : vals = [] := List.eq_nil_of_length_eq_zero (by simpa using h1)
              subst hv
              have hrs : rs.drop off = [] := List.eq_nil_of_length_eq_zero (by omega)
              rw [hrs]
              refine ⟨_, w, _, hrun w (fun a _ => by simp [storeCells]) (fun _ => rfl), regen_none h ho (by simp [AObj.gen]), ?_⟩
              exact .win _ _ _ _ _ (.arr [] y.size (g + 1)) (by simp [hlt]) (Nat.le_refl _) ⟨_, _, rfl⟩ fun _ => ⟨by simp [AObj.rows]; omega, p, cap, rfl, ⟨by simp; omega, .inr (by simp [AObj.rows])⟩, .inl hc0⟩
            · obtain ⟨c', e', f', hb', hf', hsz', hcell⟩ := arr_cell h ho hρ
              rw [hbk] at hb'; cases hb'
              have hm1 : (off + len) * y.size + R.length * y.size ≤ (off + cap) * y.size := by
                rw [← Nat.add_mul]; exact Nat.mul_le_mul_right _ (by omega)
              have hst := run_storeCells_block (P := P) vals w c (δ + (off + len) * y.size) 0 hbk (by omega) hf' hone
              have hrel := h.regen (o' := .arr (rs.drop off ++ R) y.size (g + 1)) (δ' := δ + off * y.size) (c' := over c (δ + (off + len) * y.size + 0) vals) ho hρ hbk (over_size _ _ _) (by simp [AObj.gen]) (by
                  simp only [AObj.rows, AObj.sz]
                  intro r hr'
                  obtain ⟨r', hr'', rfl⟩ := List.mem_map.1 hr'
                  rw [List.length_map]
                  rcases List.mem_append.1 hr'' with h5 | h5
                  · obtain ⟨k, hk, rfl⟩ := List.mem_iff_getElem.1 (List.mem_of_mem_drop h5)
                    have := arr_len h ho hk
                    rwa [getD_get _ _ hk] at this
                  · exact hrow r' h5) (by
                  simp only [AObj.rows, AObj.sz, List.length_map, List.length_append, hdl, Nat.add_mul] at hm1 hle ⊢
                  omega) (fun i j hi hj => by
                  simp only [AObj.rows, List.length_map, List.length_append, hdl] at hi
                  simp only [AObj.sz] at hj ⊢
                  have hrl : ((rs.drop off ++ R).getD i []).length = y.size := by
                    rw [getD_append, hdl]
                    split
                    · rename_i h6
                      have : (rs.drop off).getD i [] = rs.getD (off + i) [] := by simp [List.getD_eq_getElem?_getD]
                      rw [this]; exact arr_len h ho (by omega)
                    · rename_i h6
                      exact hrow _ (by rw [getD_get _ _ (by omega)]; exact List.getElem_mem _)
                  rw [acell_arr _ _ _ _ _ (by simp [hdl]; omega) (by rw [hrl]; exact hj)]
                  refine .d _ _ ?_
                  rw [over_get _ _ _ _ (by omega), Nat.add_zero]
                  unfold rcell
                  rw [getD_append, hdl]
                  by_cases h6 : i < len
                  · rw [if_pos h6]
                    have h7 := row_lt h6 hj
                    have : ¬ (δ + (off + len) * y.size ≤ δ + off * y.size + (i * y.size + j) ∧ δ + off * y.size + (i * y.size + j) < δ + (off + len) * y.size + vals.length) := by
                      rw [Nat.add_mul]; omega
                    rw [if_neg this]
                    have := hcell (off + i) j (by omega) hj
                    unfold rcell at this
                    have e1 : (rs.drop off).getD i [] = rs.getD (off + i) [] := by simp [List.getD_eq_getElem?_getD]
                    rw [e1]
                    have e2 : δ + off * y.size + (i * y.size + j) = δ + ((off + i) * y.size + j) := by rw [Nat.add_mul]; omega
                    rw [e2]; exact this
                  · rw [if_neg h6]
                    have h7 := row_lt (show i - len < R.length by omega) hj
                    have h8 : i * y.size = (i - len) * y.size + len * y.size := by rw [← Nat.add_mul]; congr 1; omega
                    have : δ + (off + len) * y.size ≤ δ + off * y.size + (i * y.size + j) ∧ δ + off * y.size + (i * y.size + j) < δ + (off + len) * y.size + vals.length := by
                      rw [Nat.add_mul, h8]; omega
                    rw [if_pos this]
                    have e2 : δ + off * y.size + (i * y.size + j) - (δ + (off + len) * y.size) = (i - len) * y.size + j := by rw [Nat.add_mul, h8]; omega
                    rw [e2]
                    exact hvals (i - len) j (by omega) hj)
              refine ⟨_, _, _, hrun _ (fun ad had => ?_) (fun hno => by cases hno), hrel.1, ?_⟩
              · cases had
                rw [add_place]
                have : δ + off * y.size + len * y.size = δ + (off + len) * y.size := by rw [Nat.add_mul]; omega
                rw [this]; exact hst
              · refine .win _ _ _ _ _ (.arr (rs.drop off ++ R) y.size (g + 1)) (by simp [hlt]) (Nat.le_refl _) ⟨_, _, rfl⟩ fun _ => ⟨by simp [AObj.rows]; omega, _, cap, rfl, ⟨by omega, .inr (by simp [AObj.rows]; omega)⟩, .inr ⟨b, δ + off * y.size, _, e, f, by simp [upd], by simp, put_heap_same (heap_lt hbk) _ _ _, ?_⟩⟩
                rw [over_size]
                simp only [AObj.sz, Nat.zero_add]
                rw [Nat.add_mul] at hle
                omega
          · have hself := src_ok (P := P) (y := y) hT hd (x := .win id off len gen) (v := .slice p len cap) (R := (rs.drop off).take len) (.win _ _ _ _ _ _ ho hge ⟨_, _, rfl⟩ fun hg' => (hwin hg').stay (fun b c e f h => ⟨c, f, h, rfl⟩) rfl rfl rfl rfl)
              (by simp only [srcA, ho]; rw [show decide (gen = g) = true from decide_eq_true hg]) h0 (fun r hr' => by
                obtain ⟨k, hk, rfl⟩ := List.mem_iff_getElem.1 (List.mem_of_mem_drop (List.mem_of_mem_take hr'))
                have := arr_len h ho hk
                rwa [getD_get _ _ hk] at this)
            have htk : (rs.drop off).take len = rs.drop off := by rw [← hdl]; exact List.take_length
            rw [htk] at hself
            obtain ⟨_, olds, ho1, ho2, ho3, ho4, ho5⟩ := hself
            rw [hdl] at ho1
            have hof := ho3 len (by omega)
            rw [← ho1, List.take_length] at hof
            obtain ⟨vals, rest, e, cap', h1, h2, h3, h4, hrun⟩ := append_new hT (ty := ty) hy hu (base := p) (sLen := len) (sCap := cap) hsrc.len hb hroom hbytes (old := olds) hof
              (src_ok (P := P) hT hd (hx.stay (w' := w.drew) (frm_drew _ _) (fun _ _ h => h) (Ext.refl _ _)) hR h0 hrow)
            have hcs : (olds.toArray ++ vals.toArray ++ rest).size = cap' * y.size := by
              simp only [Array.size_append, List.size_toArray, ho1, h1, h4, ← Nat.add_mul]
              congr 1; omega
            have hrel := hd.move (o' := .arr (rs.drop off ++ R) y.size (g + 1)) (c := olds.toArray ++ vals.toArray ++ rest) (e := e) (f := (0, 0)) ho (by simp [AObj.gen]) (by
                  simp only [AObj.rows, AObj.sz]
                  intro r hr'
                  obtain ⟨r', hr'', rfl⟩ := List.mem_map.1 hr'
                  rw [List.length_map]
                  rcases List.mem_append.1 hr'' with h5 | h5
                  · exact ho4 r' h5
                  · exact hrow r' h5) (by intro i _; omega) (by
                  rw [hcs]
                  simp only [AObj.rows, AObj.sz, List.length_map, List.length_append, hdl]
                  exact Nat.mul_le_mul_right _ h3) (fun i j hi hj => by
                  simp only [AObj.rows, List.length_map, List.length_append, hdl] at hi
                  simp only [AObj.sz] at hj ⊢
                  have hrl : ((rs.drop off ++ R).getD i []).length = y.size := by
                    rw [getD_append, hdl]
                    split
                    · rename_i h6
                      exact ho4 _ (by rw [getD_get _ _ (by omega)]; exact List.getElem_mem _)
                    · rename_i h6
                      exact hrow _ (by rw [getD_get _ _ (by omega)]; exact List.getElem_mem _)
                  rw [acell_arr _ _ _ _ _ (by simp [hdl]; omega) (by rw [hrl]; exact hj)]
                  refine .d _ _ ?_
                  unfold rcell
                  rw [getD_append, hdl]
                  by_cases h6 : i < len
                  · rw [if_pos h6]
                    have h7 := row_lt h6 hj
                    have : (olds.toArray ++ vals.toArray ++ rest).getD (i * y.size + j) undef = olds.getD (i * y.size + j) undef := by
                      simp only [Array.getD_eq_getD_getElem?, List.getD_eq_getElem?_getD]
                      rw [Array.getElem?_append_left (by simp; omega), Array.getElem?_append_left (by simp; omega)]
                      simp
                    rw [this]
                    exact ho5 i j (by omega) hj
                  · rw [if_neg h6]
                    have h7 := row_lt (show i - len < R.length by omega) hj
                    have h8 : i * y.size = (i - len) * y.size + len * y.size := by rw [← Nat.add_mul]; congr 1; omega
                    have : (olds.toArray ++ vals.toArray ++ rest).getD (i * y.size + j) undef = vals.getD ((i - len) * y.size + j) undef := by
                      simp only [Array.getD_eq_getD_getElem?, List.getD_eq_getElem?_getD]
                      rw [Array.getElem?_append_left (by simp; omega), Array.getElem?_append_right (by simp; omega)]
                      simp only [List.size_toArray, ho1, List.getElem?_toArray]
                      congr 2; omega
                    rw [this]
                    exact h2 (i - len) j (by omega) hj)
            refine ⟨_, _, _, hrun, hrel.1, ?_⟩
            refine .win _ _ _ _ _ (.arr (rs.drop off ++ R) y.size (g + 1)) (by simp [hlt]) (Nat.le_refl _) ⟨_, _, rfl⟩ fun _ => ⟨by simp [AObj.rows]; omega, _, cap', rfl, ⟨by omega, .inr (by simp [AObj.rows]; omega)⟩, .inr ⟨w.heap.size, 0, _, e, (0, 0), by simp [upd], by simp, alloc_heap_new' _ _, ?_⟩⟩
            rw [hcs]; simp [AObj.sz]
        · rename_i hend
          obtain ⟨⟨hrow, h0, hb, ⟨hg, hg0⟩, hn, hfits⟩, heq⟩ := ite_some hr
          cases heq
          subst hn
          obtain ⟨hfit, p, cap, rfl, ⟨_, hcap⟩, hpl⟩ := hwin hg
          have hcap := hcap.resolve_left hg0
          simp only [AObj.rows, AObj.sz, List.length_map] at hfit hcap hpl
          have hne : off + len ≠ rs.length := of_decide_eq_false hend
          have hsrc := src_ok (P := P) hT h hx hR h0 hrow
          have hlt := (List.getElem?_eq_some_iff.1 ho).1
          obtain ⟨vals, h1, hone, hvals, hrun⟩ := append_room hT (ty := ty) hy hu hsrc (base := p) (sLen := len) (sCap := cap) (by omega)
          rcases hpl with hc0 | ⟨b, δ, c, e, f, hρ, rfl, hbk, hle⟩
          · omega
          · obtain ⟨c', e', f', hb', hf', hsz', hcell⟩ := arr_cell h ho hρ
            rw [hbk] at hb'; cases hb'
            have hm1 : (off + len) * y.size + R.length * y.size ≤ rs.length * y.size := by
              rw [← Nat.add_mul]; exact Nat.mul_le_mul_right _ hfits
            have hst := run_storeCells_block (P := P) vals w c (δ + (off + len) * y.size) 0 hbk (by omega) hf' hone
            have hsl := setR_length rs (off + len) R hfits
            have hrel := h.write (o' := .arr (setR rs (off + len) R) y.size g) (c' := over c (δ + (off + len) * y.size + 0) vals) ho hρ hbk (over_size _ _ _) rfl rfl (by simp [AObj.rows, hsl]) (by
                simp only [AObj.rows, AObj.sz]
                intro r hr'
                obtain ⟨r', hr'', rfl⟩ := List.mem_map.1 hr'
                rw [List.length_map]
                obtain ⟨k, hk, rfl⟩ := List.mem_iff_getElem.1 hr''
                rw [← getD_get _ _ hk [], setR_get _ _ _ _ hfits]
                split
                · rename_i h6
                  exact hrow _ (by rw [getD_get _ _ (by omega)]; exact List.getElem_mem _)
                · exact arr_len h ho (by omega)) (fun i j hi hj => by
                simp only [AObj.rows, List.length_map, hsl] at hi
                simp only [AObj.sz] at hj ⊢
                have hrl : ((setR rs (off + len) R).getD i []).length = y.size := by
                  rw [setR_get _ _ _ _ hfits]
                  split
                  · rename_i h6
                    exact hrow _ (by rw [getD_get _ _ (by omega)]; exact List.getElem_mem _)
                  · exact arr_len h ho hi
                rw [acell_arr _ _ _ _ _ (by rw [hsl]; exact hi) (by rw [hrl]; exact hj)]
                refine .d _ _ ?_
                rw [over_get _ _ _ _ (by omega), Nat.add_zero]
                unfold rcell
                rw [setR_get _ _ _ _ hfits]
                have h7 := row_lt hi hj
                by_cases h6 : off + len ≤ i ∧ i < off + len + R.length
                · rw [if_pos h6]
                  have h9 := row_lt (show i - (off + len) < R.length by omega) hj
                  have h8 : i * y.size = (i - (off + len)) * y.size + (off + len) * y.size := by rw [← Nat.add_mul]; congr 1; omega
                  rw [if_pos (by omega)]
                  have e2 : δ + (i * y.size + j) - (δ + (off + len) * y.size) = (i - (off + len)) * y.size + j := by omega
                  rw [e2]
                  exact hvals _ j (by omega) hj
                · rw [if_neg h6]
                  have : ¬ (δ + (off + len) * y.size ≤ δ + (i * y.size + j) ∧ δ + (i * y.size + j) < δ + (off + len) * y.size + vals.length) := by
                    rcases Nat.lt_or_ge i (off + len) with h10 | h10
                    · have := row_lt h10 hj; omega
                    · have := Nat.mul_le_mul_right y.size (show off + len + R.length ≤ i by omega)
                      rw [Nat.add_mul] at this
                      omega
                  rw [if_neg this]
                  exact hcell i j hi hj)
            refine ⟨_, _, _, hrun _ (fun ad had => ?_) (fun hno => by cases hno), hrel.1, ?_⟩
            · cases had
              rw [add_place]
              have : δ + off * y.size + len * y.size = δ + (off + len) * y.size := by rw [Nat.add_mul]; omega
              rw [this]; exact hst
            · refine .win _ _ _ _ _ (.arr (setR rs (off + len) R) y.size g) (by simp [hlt]) hge ⟨_, _, rfl⟩ fun _ => ⟨by simp [AObj.rows, hsl]; omega, _, cap, rfl, by simp [AObj.rows, hsl]; omega, .inr ⟨b, δ, _, e, f, hρ, by simp [AObj.sz], put_heap_same (heap_lt hbk) _ _ _, ?_⟩⟩
              rw [over_size]
              exact hle
    · cases hr
  · cases hr
end

end Go.AI
