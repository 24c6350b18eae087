/- Maps of texts: what a look tells, what a new one and a write make. -/
import Derived.Test.YtjdjfchhbocncaaGreatAiC
import Derived.Test.YtjdjfchhbocncaaGreatAiM
import Derived.MapKept
namespace Go.AI
open Go.MapKept
set_option linter.unusedVariables false

theorem mapT_spec {P : Program} {T : Nat → Option TY} (hT : TOk P T) {t : Nat} {y : TY} (h : mapT T t = some y) :
    ∃ k e, P.underlying t = some (.map k e) ∧ P.underlying k = some .string ∧ T e = some y := by
  unfold mapT at h
  split at h
  · rename_i k e _ _ _ h1
    split at h
    · rename_i h2
      exact ⟨k, e, by simpa using hT.under h1, by simpa using hT.under h2, h⟩
    · cases h
  · cases h

theorem str_inj {a b : ByteArray} (h : a.data.toList = b.data.toList) : a = b := by
  obtain ⟨x⟩ := a
  obtain ⟨y⟩ := b
  simp only at h
  rw [Array.ext' h]

/-- Where a key stands, in the list and in the map. -/
theorem find_both {w : World} {Wr : Nat → Prop} {ρ : Nat → Option (Nat × Nat)} {objs : List AObj} (s : ByteArray) : ∀ (l : List (List UInt8 × AV)) (es : List MapEntry) (n : Nat), es.length = l.length →
    (∀ (i : Nat) (x : List UInt8 × AV) (e : MapEntry), l[i]? = some x → es[i]? = some e → (∃ s : ByteArray, e.key = .string s ∧ s.data.toList = x.1) ∧ RelV w Wr ρ objs x.2 e.val) →
    (Instr.findNow .string (.string s) es n = some none ∧ mapFind l s.data.toList = none ∧ (∀ v, mapPut l s.data.toList v = l ++ [(s.data.toList, v)]) ∧ ∀ e ∈ es, e.key ≠ .string s) ∨
    ∃ j x e, Instr.findNow .string (.string s) es n = some (some (n + j, e.val)) ∧ l[j]? = some x ∧ es[j]? = some e ∧ e.key = .string s ∧ mapFind l s.data.toList = some x.2 ∧ RelV w Wr ρ objs x.2 e.val ∧
      ∀ v, mapPut l s.data.toList v = l.set j (s.data.toList, v) := by
  intro l
  induction l with
  | nil =>
    intro es n hl _
    have : es = [] := List.length_eq_zero_iff.1 hl
    subst this
    exact .inl ⟨rfl, rfl, fun _ => rfl, by simp⟩
  | cons x l ih =>
    intro es n hl hr
    cases es with
    | nil => simp at hl
    | cons e es =>
      obtain ⟨⟨s', hk, hs⟩, hv⟩ := hr 0 x e rfl rfl
      by_cases hx : x.1 = s.data.toList
      · have : s' = s := str_inj (hs.trans hx)
        subst this
        refine .inr ⟨0, x, e, ?_, rfl, rfl, hk, by simp [mapFind, hx], hv, fun v => by simp [mapPut, hx]⟩
        have h1 : (s' == s') = true := (bytes_beq s' s').2 rfl
        simp [Instr.findNow, Instr.sameNow, hk, h1]
      · have hne : s ≠ s' := fun h => hx (by rw [h]; exact hs.symm)
        have h1 : (s == s') = false := by
          cases hb : s == s' with
          | false => rfl
          | true => exact absurd ((bytes_beq s s').1 hb) hne
        rcases ih es (n + 1) (by simpa using hl) (fun i y e' h1 h2 => hr (i + 1) y e' (by simpa using h1) (by simpa using h2)) with ⟨a, b, c, d⟩ | ⟨j, y, e', a, b, c, d, g, g2, g3⟩
        · refine .inl ⟨by simp [Instr.findNow, Instr.sameNow, hk, h1, a], by simp [mapFind, hx, b], fun v => by simp [mapPut, hx, c], fun e0 he0 => ?_⟩
          rcases List.mem_cons.1 he0 with rfl | he0
          · rw [hk]; intro h; injection h with h; exact hne h.symm
          · exact d e0 he0
        · exact .inr ⟨j + 1, y, e', by simp [Instr.findNow, Instr.sameNow, hk, h1, a]; omega, by simpa using b, by simpa using c, d, by simp [mapFind, hx, g], g2, fun v => by simp [mapPut, hx, g3]⟩

section
variable {P : Program} {T : Nat → Option TY} (hT : TOk P T) {F : Fr} {ρ : Nat → Option (Nat × Nat)} {objs : List AObj} {w : World}

theorem obj_map (h : RelH F ρ objs w) {id gen g : Nat} {l : List (List UInt8 × AV)} (ho : objs[id]? = some (.map l g)) (hg : gen = g) {v : Value} (hv : RelV w (Wrt F ρ objs) ρ objs (.mp id gen) v) :
    ∃ b δ es clock, v = .map (some b) ∧ ρ id = some (b, δ) ∧ w.heap[b]? = some (.map es clock) ∧ EntsRel w (Wrt F ρ objs) ρ objs l es clock := by
  cases hv with
  | mp _ _ _ o ho' hg' hs hh =>
    rw [ho] at ho'
    cases ho'
    obtain ⟨b, δ, hr, rfl⟩ := hh hg
    have h2 := (h.ob id _ ho).lies
    rw [hr] at h2
    obtain ⟨es, k, h3, h4⟩ := h2
    exact ⟨b, δ, es, k, rfl, hr, h3, h4⟩

include hT in
theorem lookup_ok (h : RelH F ρ objs w) {t : Nat} {y : TY} (ht : mapT T t = some y) {x k r : AV} {vx vk : Value} {ok : Bool} (hx : RelV w (Wrt F ρ objs) ρ objs x vx) (hk : RelV w (Wrt F ρ objs) ρ objs k vk)
    (hr : lookA y x k ok objs = some r) : ∃ u, (Instr.lookup t vx vk ok).run P w = .ok u w ∧ RelV w (Wrt F ρ objs) ρ objs r u := by
  obtain ⟨kt, et, h1, h2, h3⟩ := mapT_spec hT ht
  unfold lookA at hr
  split at hr
  · rename_i ks z hz ha
    obtain ⟨s, rfl, hs⟩ := relD_str hk
    obtain ⟨zv, hzr, hzv⟩ := hT.zeroOne h3 hz ha w
    have hkey : IsKey .string (.string s) := trivial
    have pair : ∀ (a : AV) (b : Bool) (v : Value), RelV w (Wrt F ρ objs) ρ objs a v → RelV w (Wrt F ρ objs) ρ objs (.tup [a, .d (.bool b)]) (.tuple #[v, .bool b]) := by
      intro a b v hv
      refine .tup _ _ rfl fun i hi => ?_
      match i, hi with
      | 0, _ => exact hv
      | 1, _ => exact .d _ _ (.bool _)
    split at hr
    · cases hr
      have hvx : vx = .map none := by cases hx with | d _ _ h => cases h; rfl
      subst hvx
      refine ⟨if ok then .tuple #[zv, .bool false] else zv, ?_, ?_⟩
      · simp [Instr.lookup, run_underlying h1, MapKept.run_checkKey h2 hkey, MapKept.run_findKey h2 (show Instr.findNow .string (.string s) [] 0 = some none from rfl), hzr, Result.andThen]
      · cases ok
        · exact hzv _ _ _ _
        · exact pair _ _ _ (hzv _ _ _ _)
    · rename_i id gen
      split at hr
      · rename_i l g ho
        split at hr
        · rename_i hg
          cases hr
          obtain ⟨b, δ, es, clock, rfl, hρ, hb, hes⟩ := obj_map h ho (by simpa using hg) hx
          rcases find_both s l es.toList 0 hes.len hes.each with ⟨a1, a2, a3, a4⟩ | ⟨j, e0, e, a1, a2, a3, a4, a5, a6, a7⟩
          · refine ⟨if ok then .tuple #[zv, .bool false] else zv, ?_, ?_⟩
            · simp [Instr.lookup, run_underlying h1, MapKept.run_getObj_map hb, MapKept.run_checkKey h2 hkey, MapKept.run_findKey h2 a1, hzr, Result.andThen]
            · rw [← hs, a2]
              cases ok
              · exact hzv _ _ _ _
              · exact pair _ _ _ (hzv _ _ _ _)
          · refine ⟨if ok then .tuple #[e.val, .bool true] else e.val, ?_, ?_⟩
            · simp [Instr.lookup, run_underlying h1, MapKept.run_getObj_map hb, MapKept.run_checkKey h2 hkey, MapKept.run_findKey h2 a1, Result.andThen]
            · rw [← hs, a5]
              cases ok
              · exact a6
              · exact pair _ _ _ a6
        · cases hr
      · cases hr
    · cases hr
  · cases hr
end

/-- A map is made. -/
theorem Rel.newMap {F : Fr} {ρ : Nat → Option (Nat × Nat)} {σ : AS} {a : Act} {w : World} (h : Rel F ρ σ a w) :
    ∃ ρ', Rel F ρ' ⟨σ.tmps, σ.objs ++ [.map [] 1]⟩ a (w.alloc (.map #[] 0)) ∧
      RelV (w.alloc (.map #[] 0)) (Wrt F ρ' (σ.objs ++ [.map [] 1])) ρ' (σ.objs ++ [.map [] 1]) (.mp σ.objs.length 1) (.map (some w.heap.size)) := by
  have hold : ∀ k o', σ.objs[k]? = some o' → k ≠ σ.objs.length := fun k o' hk e => by
    have := (List.getElem?_eq_some_iff.1 hk).1; omega
  have hget : ∀ k o', σ.objs[k]? = some o' → (σ.objs ++ [AObj.map [] 1])[k]? = some o' := fun k o' hk => by
    rw [List.getElem?_append_left (List.getElem?_eq_some_iff.1 hk).1]; exact hk
  have hget' : ∀ k o', (σ.objs ++ [AObj.map [] 1])[k]? = some o' → k ≠ σ.objs.length → σ.objs[k]? = some o' := fun k o' hk hne => by
    have hlt := (List.getElem?_eq_some_iff.1 hk).1
    simp at hlt
    rwa [List.getElem?_append_left (by omega)] at hk
  have hext : Ext σ.objs ρ (σ.objs ++ [AObj.map [] 1]) (upd ρ σ.objs.length (some (w.heap.size, 0))) :=
    ⟨fun k o' hk => ⟨o', hget k o' hk, Nat.le_refl _, fun _ => ⟨rfl, rfl, by simp [upd, hold k o' hk]⟩⟩⟩
  have hwr : ∀ b, b < w.heap.size → ¬ Wrt F ρ σ.objs b → ¬ Wrt F (upd ρ σ.objs.length (some (w.heap.size, 0))) (σ.objs ++ [AObj.map [] 1]) b := by
    rintro b hb hn (ha | ⟨k, o', δ, hk, hρ⟩)
    · exact hn (.inl ha)
    · by_cases hk' : k = σ.objs.length
      · simp [upd, hk'] at hρ; omega
      · simp [upd, hk'] at hρ
        exact hn (.inr ⟨k, o', δ, hget' k o' hk hk', hρ⟩)
  have hfrm := frm_alloc (Wrt F ρ σ.objs) w (.map #[] 0)
  refine ⟨upd ρ σ.objs.length (some (w.heap.size, 0)), h.change hfrm hwr hext (h.hp.change σ.objs.length hfrm hwr hext (fun k o' hk hne => ⟨hget' k o' hk hne, by simp [upd, hne], fun b δ hρ => ?_⟩) (fun o' ho' => ?_) ?_), ?_⟩
  · exact alloc_heap_old _ _ _ (wrt_lt h.hp (.inr ⟨k, o', δ, hget' k o' hk hne, hρ⟩))
  · have : o' = .map [] 1 := by simp at ho'; exact ho'.symm
    subst this
    refine ⟨⟨by simp [AObj.rows], ?_⟩, fun b δ hρ => ?_⟩
    · simp only [upd, if_true]
      exact ⟨#[], 0, alloc_heap_new' _ _, stamped_empty 0, rfl, fun i x e hx => by simp at hx⟩
    · simp [upd] at hρ
      obtain ⟨rfl, rfl⟩ := hρ
      refine ⟨fun ha => ?_, .inr h.hp.frm.size, fun k o'' δ' hk hne hρk => ?_⟩
      · have := h.hp.am _ ha; have := h.hp.frm.size; omega
      · simp [upd, hne] at hρk
        have := wrt_lt h.hp (.inr ⟨k, o'', δ', hget' k o'' hk hne, hρk⟩)
        omega
  · exact h.hp.frm.trans (frm_alloc F.Bor w _) (fun _ _ h => h)
  · exact .mp _ _ _ (.map [] 1) (by simp) (Nat.le_refl _) ⟨_, rfl⟩ fun _ => ⟨w.heap.size, 0, by simp [upd], rfl⟩

/-- A map's block is written anew. -/
theorem Rel.writeMap {F : Fr} {ρ : Nat → Option (Nat × Nat)} {σ : AS} {a : Act} {w : World} (h : Rel F ρ σ a w) {id g : Nat} {l l' : List (List UInt8 × AV)} (ho : σ.objs[id]? = some (.map l g)) {b δ : Nat} (hρ : ρ id = some (b, δ))
    {es es' : Array MapEntry} {clock clock' : Nat} (hb : w.heap[b]? = some (.map es clock)) (hes : EntsRel w (Wrt F ρ σ.objs) ρ σ.objs l' es' clock') :
    Rel F ρ ⟨σ.tmps, σ.objs.set id (.map l' g)⟩ a { w with heap := w.heap.setIfInBounds b (.map es' clock') } := by
  have hlt := (List.getElem?_eq_some_iff.1 ho).1
  have hget : ∀ k, k ≠ id → (σ.objs.set id (AObj.map l' g))[k]? = σ.objs[k]? := fun k hk => List.getElem?_set_ne (Ne.symm hk)
  have hgetid : (σ.objs.set id (AObj.map l' g))[id]? = some (.map l' g) := by simp [hlt]
  obtain ⟨hs1, hs2⟩ := heap_set (o' := .map es' clock') hb
  have hext : Ext σ.objs ρ (σ.objs.set id (.map l' g)) ρ := ⟨fun k ok hk => by
    by_cases hki : k = id
    · subst hki
      rw [ho] at hk; cases hk
      exact ⟨_, hgetid, Nat.le_refl _, fun _ => ⟨rfl, rfl, rfl⟩⟩
    · exact ⟨ok, (hget k hki).trans hk, Nat.le_refl _, fun _ => ⟨rfl, rfl, rfl⟩⟩⟩
  have hw0 : Wrt F ρ σ.objs b := .inr ⟨id, _, δ, ho, hρ⟩
  have hwr : ∀ x, x < w.heap.size → ¬ Wrt F ρ σ.objs x → ¬ Wrt F ρ (σ.objs.set id (.map l' g)) x := by
    rintro x hx hn (ha | ⟨k, ok, δk, hk, hρk⟩)
    · exact hn (.inl ha)
    · by_cases hki : k = id
      · subst hki; exact hn (.inr ⟨k, _, δk, ho, hρk⟩)
      · exact hn (.inr ⟨k, ok, δk, (hget k hki) ▸ hk, hρk⟩)
  have frm : ∀ (Wr : Nat → Prop), Wr b → Frm Wr w { w with heap := w.heap.setIfInBounds b (.map es' clock') } := by
    intro Wr hW
    refine ⟨rfl, rfl, rfl, by simp, fun k hk hn => hs2 k fun e => hn (e ▸ hW), fun k c e f hk => ?_⟩
    have hne : k ≠ b := fun e => by rw [e, hb] at hk; cases hk
    exact ⟨c, f, (hs2 k hne).trans hk, rfl⟩
  have hfrm := frm (Wrt F ρ σ.objs) hw0
  have hown := h.hp.own id _ b δ ho hρ
  refine h.change hfrm hwr hext (h.hp.change id hfrm hwr hext (fun k ok hk hne => ?_) (fun o'' ho'' => ?_) ?_)
  · rw [hget k hne] at hk
    refine ⟨hk, rfl, fun bk δk hρk => hs2 bk fun e => ?_⟩
    subst e
    exact hne (h.hp.inj k id ok _ _ δk δ hk ho hρk hρ)
  · rw [hgetid] at ho''
    cases ho''
    refine ⟨⟨by simp [AObj.rows], ?_⟩, fun bk δk hρk => ?_⟩
    · rw [hρ]
      exact ⟨es', clock', hs1, hes.stay hfrm hwr hext⟩
    · rw [hρ] at hρk
      cases hρk
      refine ⟨hown.1, hown.2, fun k ok δ' hk hne hρk => ?_⟩
      rw [hget k hne] at hk
      exact hne (h.hp.inj k id ok _ b δ' δ hk ho hρk hρ)
  · refine h.hp.frm.trans (Wr' := fun x => x = b) (frm _ rfl) fun x hx hxb => ?_
    subst hxb
    rcases hown.2 with h1 | h1
    · exact h1
    · omega

theorem mapUpdate_ok {P : Program} {T : Nat → Option TY} (hT : TOk P T) {F : Fr} {ρ : Nat → Option (Nat × Nat)} {σ : AS} {a : Act} {w : World} (h : Rel F ρ σ a w) {t : Nat} {y : TY} (ht : mapT T t = some y)
    {id gen g : Nat} {l : List (List UInt8 × AV)} (ho : σ.objs[id]? = some (.map l g)) (hg : gen = g) {vm : Value} (hm : RelV w (Wrt F ρ σ.objs) ρ σ.objs (.mp id gen) vm)
    {s : ByteArray} {x : AV} {vx : Value} (hx : RelV w (Wrt F ρ σ.objs) ρ σ.objs x vx) :
    ∃ w', (Instr.mapUpdate t vm (.string s) vx).run P w = .ok () w' ∧ Rel F ρ ⟨σ.tmps, σ.objs.set id (.map (mapPut l s.data.toList x) g)⟩ a w' := by
  obtain ⟨kt, et, h1, h2, h3⟩ := mapT_spec hT ht
  obtain ⟨b, δ, es, clock, rfl, hρ, hb, hes⟩ := obj_map h.hp ho hg hm
  have hkey : IsKey .string (.string s) := trivial
  rcases find_both s l es.toList 0 hes.len hes.each with ⟨a1, a2, a3, a4⟩ | ⟨j, e0, e, a1, a2, a3, a4, a5, a6, a7⟩
  · refine ⟨_, ?_, h.writeMap ho hρ hb (es' := es.push { key := .string s, val := vx, born := clock }) (clock' := clock + 1) ?_⟩
    · simp [Instr.mapUpdate, run_underlying h1, MapKept.run_getObj_map hb, MapKept.run_checkKey h2 hkey, MapKept.run_findKey h2 a1, MapKept.run_setObj_map _ hb, Result.andThen]
    · rw [a3]
      refine ⟨stamped_push hes.st a4, by simp [← hes.len], fun i z e hz he => ?_⟩
      simp only [Array.toList_push] at he
      by_cases hi : i < l.length
      · rw [List.getElem?_append_left hi] at hz
        rw [List.getElem?_append_left (by rw [hes.len]; exact hi)] at he
        exact hes.each i z e hz he
      · rw [List.getElem?_append_right (by omega)] at hz
        rw [List.getElem?_append_right (by rw [hes.len]; omega), hes.len] at he
        have hi0 : i - l.length = 0 := by
          have := (List.getElem?_eq_some_iff.1 hz).1
          simpa using this
        rw [hi0] at hz he
        simp at hz he
        subst hz
        subst he
        exact ⟨⟨s, rfl, rfl⟩, hx⟩
  · have hj : es[j]? = some e := by simpa using a3
    have hjz : es[0 + j]? = some e := by simpa using a3
    refine ⟨_, ?_, h.writeMap ho hρ hb (es' := es.modify j fun e => { e with key := .string s, val := vx }) (clock' := clock) ?_⟩
    · simp [Instr.mapUpdate, run_underlying h1, MapKept.run_getObj_map hb, MapKept.run_checkKey h2 hkey, MapKept.run_findKey h2 a1, hj, a4, MapKept.run_keyThatStays hkey, MapKept.run_setObj_map _ hb, Result.andThen]
    · rw [a7]
      refine ⟨stamped_modify hes.st _ _ (fun _ _ => rfl) (fun e' _ he' => by rw [hj] at he'; cases he'; exact a4.symm), by simpa using hes.len, fun i z e' hz he => ?_⟩
      rw [Array.getElem?_toList, Array.getElem?_modify] at he
      by_cases hij : j = i
      · subst hij
        rw [if_pos rfl, hj] at he
        simp at he
        subst he
        have hlt := (List.getElem?_eq_some_iff.1 a2).1
        simp [hlt] at hz
        subst hz
        exact ⟨⟨s, rfl, rfl⟩, hx⟩
      · rw [if_neg hij] at he
        rw [List.getElem?_set_ne hij] at hz
        exact hes.each i z e' hz (by rw [Array.getElem?_toList]; exact he)

end Go.AI
