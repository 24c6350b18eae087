/- The library's sort with a comparison, of structs of plain data, as a contract over objects. -/
import Derived.Test.YtejejeginfjnjaaAiU
namespace Go.AI
open Go.Shelf Go.Proofs
set_option linter.unusedVariables false

/-- Plain data as a value. -/
def dval : D → Value
  | .int k n => .int k n
  | .str s => .string ⟨s.toArray⟩
  | .bool b => .bool b
  | _ => undef
def scal : D → Bool
  | .int _ _ => true
  | .str _ => true
  | .bool _ => true
  | _ => false

theorem val_of {w : World} {Wr : Nat → Prop} {ρ : Nat → Option (Nat × Nat)} {objs : List AObj} {x : D} {v : Value} (hs : scal x = true) (h : RelV w Wr ρ objs (.d x) v) : v = dval x := by
  cases x with
  | int k n => exact relD_int h
  | bool b => exact relD_bool h
  | str s =>
    obtain ⟨t, rfl, ht⟩ := relD_str h
    subst ht
    rfl
  | _ => simp [scal] at hs
theorem of_val {w : World} {Wr : Nat → Prop} {ρ : Nat → Option (Nat × Nat)} {objs : List AObj} {x : D} (hs : scal x = true) : RelV w Wr ρ objs (.d x) (dval x) := by
  cases x with
  | int k n => exact .d _ _ (.int _ _)
  | bool b => exact .d _ _ (.bool _)
  | str s => exact .d _ _ (.str _ _ (by simp))
  | _ => simp [scal] at hs

theorem oneCell_val {x : D} (hs : scal x = true) : (dval x).oneCell' = true := by
  cases x with
  | int k n => rfl
  | bool b => rfl
  | str s => rfl
  | _ => simp [scal] at hs

section
variable {α : Type} [Inhabited α]
def encV (encD : α → List D) (a : α) : List Value := (encD a).map dval
def sortOf (cf : α → α → Int) (l : List α) : List α := l.mergeSort fun x y => !(ltOf cf) y x
theorem sortOf_length {α : Type} (cf : α → α → Int) (l : List α) : (sortOf cf l).length = l.length := by simp [sortOf, List.length_mergeSort]

open Classical in
noncomputable def sortK (gc kk : Nat) (encD : α → List D) (dec : List D → α) (cf : α → α → Int) : List AV → List AObj → Option (AV × List AObj)
  | [.nils, .fn (.func f) []], [] => if f = gc then some (.tup [], []) else none
  | [.win id off n gen, .fn (.func f) []], [.arr rs k g] =>
    if (id = 0 ∧ off = 0 ∧ f = gc) ∧ (gen = g ∧ k = kk ∧ n = rs.length) ∧ 0 < n ∧ n < 1000000000 ∧ rs = (rs.map dec).map encD then some (.tup [], [.arr ((sortOf cf (rs.map dec)).map encD) k g]) else none
  | _, _ => none

theorem rowsK_cell {α : Type} {encD : α → List D} {k : Nat} (hk : ∀ a, (encD a).length = k) (l : List α) (g : Nat) {i j : Nat} (hi : i < l.length) (hj : j < k) : acell (AObj.arr (l.map encD) k g).rows i j = .d ((encD l[i]).getD j .nilp) := by
  have := hk l[i]
  simp [acell, AObj.rows, List.getD_eq_getElem?_getD, hi, this, hj]

theorem flat_at {encD : α → List D} {k : Nat} (hk : ∀ a, (encD a).length = k) (l : List α) {i j : Nat} (hi : i < l.length) (hj : j < k) :
    (Sort.flatK (encV encD) k l.toArray)[i * k + j]! = dval ((encD l[i]).getD j .nilp) := by
  have hlt : i * k + j < l.toArray.size * k := by
    have : i * k + k ≤ l.length * k := by
      rw [← Nat.succ_mul]
      exact Nat.mul_le_mul_right k hi
    simp only [List.size_toArray]
    omega
  rw [Sort.get_flatK _ _ _ _ hlt]
  have e1 : (i * k + j) / k = i := by
    rw [Nat.mul_comm, Nat.mul_add_div (by omega), Nat.div_eq_of_lt hj]; omega
  have e2 : (i * k + j) % k = j := by rw [Nat.mul_comm, Nat.mul_add_mod, Nat.mod_eq_of_lt hj]
  have := hk l[i]
  simp [e1, e2, encV, hi, this, hj, List.getD_eq_getElem?_getD]

theorem sortWorldV_block {w : World} {b off m : Nat} {d : Array Value} {os : Array Obj} {c : Array Value} {e : TypeId} {f : Nat × Nat} (h : w.heap[b]? = some (.cells c e f)) :
    (sortWorld (id : Value → Value) w b off m d os).heap[b]? = some (.cells (Sort.putCells id off d c) e f) := by
  have hlt := heap_lt h
  unfold sortWorld
  rw [Sort.heap_grow_old _ _ (by simp [Sort.putRow, Sort.mapBlock, Sort.ahead]; exact hlt)]
  show (w.heap.modify b (Sort.onCells (Sort.putCells id off d)))[b]? = _
  rw [Array.getElem?_modify, h]
  simp [Sort.onCells]

theorem sortWorldV_other {w : World} {b off m : Nat} {d : Array Value} {os : Array Obj} {k : Nat} (hk : k < w.heap.size) (hne : k ≠ b) : (sortWorld (id : Value → Value) w b off m d os).heap[k]? = w.heap[k]? := by
  unfold sortWorld
  rw [Sort.heap_grow_old _ _ (by simp [Sort.putRow, Sort.mapBlock, Sort.ahead]; exact hk)]
  simp [Sort.putRow, Sort.mapBlock, Sort.ahead, Array.getElem?_modify, Ne.symm hne]

theorem sortWorldV_frm {w : World} {b off m : Nat} {d : Array Value} {os : Array Obj} {Wr : Nat → Prop} (hb : b < w.heap.size → Wr b) : Frm Wr w (sortWorld (id : Value → Value) w b off m d os) := by
  refine ⟨rfl, rfl, rfl, by simp [sortWorld, Sort.putRow, Sort.mapBlock, Sort.ahead], fun k hk hn => sortWorldV_other hk (fun e => hn (e ▸ hb (e ▸ hk))), fun k c e f hc => ?_⟩
  by_cases hk : k = b
  · subst hk
    exact ⟨_, f, sortWorldV_block hc, by simp [Sort.putCells]⟩
  · exact ⟨c, f, (sortWorldV_other (heap_lt hc) hk).trans hc, rfl⟩

theorem sortK_ok {P : Program} {ρr : Ren} (L : SlLaysF0.n6 P ρr) (gc kk : Nat) (encD : α → List D) (dec : List D → α) (cf : α → α → Int) (hk0 : 0 < kk) (hk : ∀ a, (encD a).length = kk) (hsc : ∀ a, ∀ x ∈ encD a, scal x = true)
    (aE : ∀ w, (isAgg (ρr.t 24)).run P w = .ok true w) (zE : ∀ w, (Go.sizeOf (ρr.t 24)).run P w = .ok kk w)
    (ef : ∀ args w, (callFunc (ρr.f 6) args).run P w = .ok (.enter (ρr.f 6) args) w)
    (eg : ∀ args w, (callFunc gc args).run P w = .ok (.enter gc args) w)
    (hcmp : ∀ x y W, Calls P gc #[.agg (encV encD x).toArray, .agg (encV encD y).toArray] W fun e w' => e = .returned (.int .i64 (cf x y)) ∧ ∃ q os', w' = Sort.grow (W.drewN q) os') (hO : Sort.SWO (ltOf cf))
    (hT : ∀ x y, (ltOf cf) x y = false → (ltOf cf) y x = false → x = y) : SpecO P (ρr.f 6) (sortK gc kk encD dec cf) := by
  intro args objs r objs' hs
  refine ⟨ef, ?_⟩
  unfold sortK at hs
  split at hs
  · rename_i f
    split at hs
    · rename_i hf
      subst hf
      cases hs
      intro F ρ w cargs hw0 ho0 hr0 hH hsz hrel
      have hv0 : ∃ p, cargs.getD 0 undef = .slice p 0 0 := by
        have h0 : RelV w _ ρ _ .nils (cargs.getD 0 undef) := hrel 0 (by simp)
        generalize cargs.getD 0 undef = v0 at h0
        cases h0 with
        | nils p => exact ⟨p, rfl⟩
      obtain ⟨p, hv0⟩ := hv0
      have hs2 : cargs.size = 2 := by simpa using hsz
      have hargs : cargs = #[.slice p 0 0, cargs.getD 1 undef] := by
        apply Array.ext
        · simpa using hs2
        · intro i h1 h2
          have : i = 0 ∨ i = 1 := by omega
          rcases this with rfl | rfl
          · have : cargs.getD 0 undef = cargs[0] := by simp [Array.getD_eq_getD_getElem?, h1]
            rw [← this, hv0]; simp
          · simp [Array.getD_eq_getD_getElem?, h1]
      rw [hargs]
      refine (AnyF.slices_SortFunc_none L p 0 _ w).mono ?_
      rintro e w' ⟨rfl, rfl⟩
      exact ⟨_, ρ, rfl, hH, .tup [] #[] rfl (fun i hi => by simp at hi)⟩
    · cases hs
  · rename_i id off n gen f rs k g
    split at hs
    · rename_i hcond
      obtain ⟨⟨rfl, rfl, rfl⟩, ⟨rfl, rfl, rfl⟩, hpos, hsmall, hrs⟩ := hcond
      cases hs
      generalize hl : rs.map dec = l at hrs ⊢
      subst hrs
      rw [List.length_map] at hpos hsmall ⊢
      intro F ρ w cargs hw0 ho0 hr0 hH hsz hrel
      obtain ⟨p, cap, b, δ, c, e, fz, hv, hcap, hρ, hp, hb, hfit⟩ : ∃ p cap b δ c e fz, cargs.getD 0 undef = .slice p l.length cap ∧ l.length ≤ cap ∧ ρ 0 = some (b, δ) ∧ p = some ⟨b, δ + 0 * k, none⟩ ∧ w.heap[b]? = some (.cells c e fz) ∧ δ + cap * k ≤ c.size := by
        have h0 : RelV w _ ρ _ (.win 0 0 l.length gen) (cargs.getD 0 undef) := hrel 0 (by simp)
        generalize cargs.getD 0 undef = v0 at h0
        cases h0 with
        | win _ _ _ _ _ o ho hg hsl h =>
          cases ho
          obtain ⟨_, p, cap, hv, hc, hp⟩ := h rfl
          have hc : l.length ≤ cap := hc.1
          rcases hp with h0 | ⟨b, δ, c, e, fz, h1, h2, h3, h4⟩
          · omega
          · exact ⟨p, cap, b, δ, c, e, fz, hv, hc, h1, h2, h3, by simpa [AObj.sz] using h4⟩
      have hv1 : cargs.getD 1 undef = .func (.func f) #[] #[] := by
        have h1 : RelV w _ ρ _ (.fn (.func f) []) (cargs.getD 1 undef) := hrel 1 (by simp)
        generalize cargs.getD 1 undef = v1 at h1
        cases h1 with
        | fn _ _ vs hl' _ =>
          have : vs = #[] := Array.size_eq_zero_iff.1 (by simpa using hl'.symm)
          rw [this]
      have hargs : cargs = #[.slice (some ⟨b, δ, none⟩) l.length cap, .func (.func f) #[] #[]] := by
        have hs2 : cargs.size = 2 := by simpa using hsz
        apply Array.ext
        · simpa using hs2
        · intro i h1 h2
          have : i = 0 ∨ i = 1 := by omega
          rcases this with rfl | rfl
          · have : cargs.getD 0 undef = cargs[0] := by simp [Array.getD_eq_getD_getElem?, h1]
            rw [← this, hv, hp]; simp
          · have : cargs.getD 1 undef = cargs[1] := by simp [Array.getD_eq_getD_getElem?, h1]
            rw [← this, hv1]; simp
      obtain ⟨hrow, hlies⟩ := hH.ob 0 (.arr (l.map encD) k gen) rfl
      rw [hρ] at hlies
      obtain ⟨c', e', f', k1, k2, k3, k4⟩ := hlies
      rw [hb] at k1
      cases k1
      have k3 : δ + l.length * k ≤ c.size := by simpa [AObj.rows, AObj.sz] using k3
      have hat : ∀ i j, i < l.length → j < k → i * k + j < l.length * k := by
        intro i j hi hj
        have : i * k + k ≤ l.length * k := by
          rw [← Nat.succ_mul]
          exact Nat.mul_le_mul_right k hi
        omega
      have hHolds : Sort.HoldsK (encV encD) k w b δ l.toArray := by
        intro t ht
        have ht' : t < l.length * k := by simpa using ht
        have hi : t / k < l.length := Nat.div_lt_of_lt_mul (by rw [Nat.mul_comm]; exact ht')
        have hj : t % k < k := Nat.mod_lt _ hk0
        have ht3 : t / k * k + t % k = t := Nat.div_add_mod' t k
        refine ⟨?_, k2 (δ + t) (by omega)⟩
        rw [cell_of_heap hb (show δ + t < c.size by omega)]
        have h4 := k4 (t / k) (t % k) (by simpa [AObj.rows] using hi) (by simpa [AObj.sz] using hj)
        rw [rowsK_cell hk l gen hi hj] at h4
        have hsc1 : scal ((encD l[t / k]).getD (t % k) .nilp) = true := by
          have hkl := hk l[t / k]
          rw [List.getD_eq_getElem?_getD, List.getElem?_eq_getElem (by omega)]
          exact hsc _ _ (List.getElem_mem _)
        have h5 := val_of hsc1 h4
        have h6 := flat_at hk l hi hj
        rw [ht3] at h6
        simp only [AObj.sz] at h5
        rw [ht3] at h5
        rw [h5]
        exact congrArg some h6.symm
      rw [hargs]
      have hc := AnyQ.slices_SortFunc_total L k aE zE (encV encD) (fun x => by simp [encV, hk]) (fun x v hv => by
          obtain ⟨y, hy, rfl⟩ := List.mem_map.1 hv
          exact oneCell_val (hsc x y hy)) cf hO f #[] b δ cap l.toArray w eg
        (fun m os dk _ x y => by simpa using hcmp x y _) hHolds (heap_lt hb) (by simp; omega) hT
      refine (by simpa using hc : Calls P (ρr.f 6) #[.slice (some ⟨b, δ, none⟩) l.length cap, .func (.func f) #[] #[]] w _).mono ?_
      rintro en w' ⟨rfl, m, os, hw'⟩
      have hw' : w' = sortWorld (id : Value → Value) w b δ m (Sort.flatK (encV encD) k (sortOf cf l).toArray) os := hw'
      subst hw'
      refine ⟨_, ρ, rfl, ?_, .tup [] #[] rfl (fun i hi => by simp at hi)⟩
      have hwr : Wrt F ρ [.arr (l.map encD) k gen] b := .inr ⟨0, _, δ, rfl, hρ⟩
      have hown := hH.own 0 _ b δ rfl hρ
      refine hH.change 0 (sortWorldV_frm fun _ => hwr) ?_ ?_ ?_ ?_ ?_
      · rintro x hx hn (ha | ⟨q, o, δ', hq, hρq⟩)
        · exact hn (.inl ha)
        · cases q with
          | zero => exact hn (.inr ⟨0, _, δ', rfl, hρq⟩)
          | succ q => simp at hq
      · refine ⟨fun q o hq => ?_⟩
        cases q with
        | zero => cases hq; exact ⟨_, rfl, Nat.le_refl _, fun _ => ⟨rfl, by simp [AObj.rows, sortOf_length], rfl⟩⟩
        | succ q => simp at hq
      · intro q o hq hne
        cases q with
        | zero => exact absurd rfl hne
        | succ q => simp at hq
      · intro o hq
        cases hq
        refine ⟨⟨fun r hr => ?_, ?_⟩, fun b' δ' hρ' => ?_⟩
        · simp [AObj.rows] at hr
          obtain ⟨a, _, rfl⟩ := hr
          simp [AObj.sz, hk]
        · rw [hρ]
          refine ⟨_, e, fz, sortWorldV_block hb, fun i hi => ?_, by simp [AObj.rows, AObj.sz, sortOf_length, Sort.putCells]; omega, fun i j hi hj => ?_⟩
          · have := k2 i (by simpa [Sort.putCells] using hi)
            unfold World.frozen? at this ⊢
            rw [sortWorldV_block hb]
            rw [hb] at this
            exact this
          · have hi' : i < (sortOf cf l).length := by simpa [AObj.rows] using hi
            have hi2 : i < l.length := by rw [← sortOf_length cf l]; exact hi'
            have hj' : j < k := by simpa [AObj.sz] using hj
            rw [rowsK_cell hk _ gen hi' hj']
            have hlt2 := hat i j hi2 hj'
            have : (Sort.putCells id δ (Sort.flatK (encV encD) k (sortOf cf l).toArray) c).getD (δ + (i * k + j)) undef = dval ((encD (sortOf cf l)[i]).getD j .nilp) := by
              have hlt : δ + (i * k + j) < c.size := by omega
              simp only [Sort.putCells, Array.getD_eq_getD_getElem?, Array.getElem?_mapIdx, Array.getElem?_eq_getElem hlt, Option.map_some, Option.getD_some]
              rw [if_pos ⟨by omega, by simp [sortOf_length]; omega⟩]
              have e3 : δ + (i * k + j) - δ = i * k + j := by omega
              rw [e3]
              exact flat_at hk _ hi' hj'
            rw [show (AObj.arr ((sortOf cf l).map encD) k gen).sz = k from rfl, this]
            refine of_val ?_
            have hkl := hk (sortOf cf l)[i]
            rw [List.getD_eq_getElem?_getD, List.getElem?_eq_getElem (by omega)]
            exact hsc _ _ (List.getElem_mem _)
        · rw [hρ] at hρ'
          cases hρ'
          refine ⟨hown.1, hown.2, fun q o' δ'' hq hne => ?_⟩
          cases q with
          | zero => exact absurd rfl hne
          | succ q => simp at hq
      · subst hw0
        exact sortWorldV_frm fun hlt => hown.2.resolve_right (by omega)
    · cases hs
  · cases hs
end

end Go.AI
