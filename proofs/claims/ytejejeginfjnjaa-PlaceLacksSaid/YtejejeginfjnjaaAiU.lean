/- The library's sort with a comparison, of integers, as a contract over objects. -/
import Derived.Test.YtejejeginfjnjaaAiL
import Derived.Shelf.SlSortCmp.NoneTotal
namespace Go.AI
open Go.Shelf Go.Proofs
set_option linter.unusedVariables false

def intOf : List D → Int
  | [.int _ n] => n
  | _ => 0
def rowsZ (l : List Int) : List (List D) := l.map fun n => [D.int .i64 n]
def sortBy (cf : Int → Int → Int) (l : List Int) : List Int := l.mergeSort fun x y => !(ltOf cf) y x

def isI64 : List D → Bool
  | [.int .i64 _] => true
  | _ => false
theorem rowsZ_of : ∀ {rs : List (List D)}, rs.all isI64 = true → rs = rowsZ (rs.map intOf) := by
  intro rs
  induction rs with
  | nil => intro _; rfl
  | cons r rs ih =>
    intro h
    simp only [List.all_cons, Bool.and_eq_true] at h
    have h2 := ih h.2
    have h1 : r = [.int .i64 (intOf r)] := by
      have h1 := h.1
      unfold isI64 at h1
      split at h1
      · rfl
      · cases h1
    rw [List.map_cons]
    show r :: rs = [.int .i64 (intOf r)] :: rowsZ (rs.map intOf)
    rw [← h2, ← h1]
theorem rowsZ_all (l : List Int) : (rowsZ l).all isI64 = true := by simp [rowsZ, isI64]
theorem rowsZ_int (l : List Int) : (rowsZ l).map intOf = l := by simp [rowsZ, intOf, Function.comp_def]

def sortS (gc : Nat) (cf : Int → Int → Int) : List AV → List AObj → Option (AV × List AObj)
  | [.win id off n gen, .fn (.func f) []], [.arr rs k g] =>
    if (id = 0 ∧ off = 0 ∧ f = gc) ∧ (gen = g ∧ k = 1 ∧ n = rs.length) ∧ 0 < n ∧ n < 1000000000 ∧ rs.all isI64 = true then some (.tup [], [.arr (rowsZ (sortBy cf (rs.map intOf))) 1 g]) else none
  | _, _ => none

theorem rowsZ_length (l : List Int) : (rowsZ l).length = l.length := by simp [rowsZ]
theorem rowsZ_cell (l : List Int) (g : Nat) {i j : Nat} (hi : i < l.length) (hj : j < 1) : acell (AObj.arr (rowsZ l) 1 g).rows i j = .d (.int .i64 l[i]) := by
  have : j = 0 := by omega
  subst this
  simp [acell, AObj.rows, rowsZ, List.getD_eq_getElem?_getD, hi]

theorem sortWorld_block {w : World} {b off m : Nat} {d : Array Int} {os : Array Obj} {c : Array Value} {e : TypeId} {f : Nat × Nat} (h : w.heap[b]? = some (.cells c e f)) :
    (sortWorld (Value.int .i64) w b off m d os).heap[b]? = some (.cells (Sort.putCells (Value.int .i64) off d c) e f) := by
  have hlt := heap_lt h
  unfold sortWorld
  rw [Sort.heap_grow_old _ _ (by simp [Sort.putRow, Sort.mapBlock, Sort.ahead]; exact hlt)]
  show (w.heap.modify b (Sort.onCells (Sort.putCells (Value.int .i64) off d)))[b]? = _
  rw [Array.getElem?_modify, h]
  simp [Sort.onCells]

theorem sortWorld_other {w : World} {b off m : Nat} {d : Array Int} {os : Array Obj} {k : Nat} (hk : k < w.heap.size) (hne : k ≠ b) : (sortWorld (Value.int .i64) w b off m d os).heap[k]? = w.heap[k]? := by
  unfold sortWorld
  rw [Sort.heap_grow_old _ _ (by simp [Sort.putRow, Sort.mapBlock, Sort.ahead]; exact hk)]
  simp [Sort.putRow, Sort.mapBlock, Sort.ahead, Array.getElem?_modify, Ne.symm hne]

theorem sortWorld_frm {w : World} {b off m : Nat} {d : Array Int} {os : Array Obj} {Wr : Nat → Prop} (hb : b < w.heap.size → Wr b) : Frm Wr w (sortWorld (Value.int .i64) w b off m d os) := by
  refine ⟨rfl, rfl, rfl, by simp [sortWorld, Sort.putRow, Sort.mapBlock, Sort.ahead], fun k hk hn => sortWorld_other hk (fun e => hn (e ▸ hb (e ▸ hk))), fun k c e f hc => ?_⟩
  by_cases hk : k = b
  · subst hk
    exact ⟨_, f, sortWorld_block hc, by simp [Sort.putCells]⟩
  · exact ⟨c, f, (sortWorld_other (heap_lt hc) hk).trans hc, rfl⟩

theorem sortBy_length (cf : Int → Int → Int) (l : List Int) : (sortBy cf l).length = l.length := by simp [sortBy, List.length_mergeSort]

theorem sortS_ok {P : Program} {ρr : Ren} (L : SlLaysF.n6 P ρr) (gc : Nat) (cf : Int → Int → Int) (ef : ∀ args w, (callFunc (ρr.f 6) args).run P w = .ok (.enter (ρr.f 6) args) w)
    (eg : ∀ args w, (callFunc gc args).run P w = .ok (.enter gc args) w) (hcmp : ∀ x y W, Calls P gc #[.int .i64 x, .int .i64 y] W fun e w' => e = .returned (.int .i64 (cf x y)) ∧ w' = W) (hO : Sort.SWO (ltOf cf))
    (hT : ∀ x y, (ltOf cf) x y = false → (ltOf cf) y x = false → x = y) : SpecO P (ρr.f 6) (sortS gc cf) := by
  intro args objs r objs' hs
  refine ⟨ef, ?_⟩
  unfold sortS at hs
  split at hs
  · rename_i id off n gen f rs k g
    split at hs
    · rename_i hcond
      obtain ⟨⟨rfl, rfl, rfl⟩, ⟨rfl, rfl, rfl⟩, hpos, hsmall, hrs⟩ := hcond
      cases hs
      replace hrs := rowsZ_of hrs
      generalize hl : rs.map intOf = l at hrs ⊢
      subst hrs
      rw [rowsZ_length] at hpos hsmall ⊢
      intro F ρ w cargs hw0 ho0 hr0 hH hsz hrel
      obtain ⟨p, cap, b, δ, c, e, fz, hv, hcap, hρ, hp, hb, hfit⟩ : ∃ p cap b δ c e fz, cargs.getD 0 undef = .slice p l.length cap ∧ l.length ≤ cap ∧ ρ 0 = some (b, δ) ∧ p = some ⟨b, δ + 0 * 1, none⟩ ∧ w.heap[b]? = some (.cells c e fz) ∧ δ + cap * 1 ≤ c.size := by
        have h0 : RelV w _ ρ _ (.win 0 0 l.length gen) (cargs.getD 0 undef) := hrel 0 (by simp)
        generalize cargs.getD 0 undef = v0 at h0
        cases h0 with
        | win _ _ _ _ _ o ho hg hsl h =>
          cases ho
          obtain ⟨_, p, cap, hv, hc, hp⟩ := h rfl
          have hc : l.length ≤ cap := hc.1
          rcases hp with h0 | ⟨b, δ, c, e, fz, h1, h2, h3, h4⟩
          · omega
          · exact ⟨p, cap, b, δ, c, e, fz, hv, hc, h1, h2, h3, by simpa [AObj.sz] using h4⟩
      have hv1 : cargs.getD 1 undef = .func (.func f) #[] #[] := by
        have h1 : RelV w _ ρ _ (.fn (.func f) []) (cargs.getD 1 undef) := hrel 1 (by simp)
        generalize cargs.getD 1 undef = v1 at h1
        cases h1 with
        | fn _ _ vs hl' _ =>
          have : vs = #[] := Array.size_eq_zero_iff.1 (by simpa using hl'.symm)
          rw [this]
      have hargs : cargs = #[.slice (some ⟨b, δ, none⟩) l.length cap, .func (.func f) #[] #[]] := by
        have hs2 : cargs.size = 2 := by simpa using hsz
        apply Array.ext
        · simpa using hs2
        · intro i h1 h2
          have : i = 0 ∨ i = 1 := by omega
          rcases this with rfl | rfl
          · have : cargs.getD 0 undef = cargs[0] := by simp [Array.getD_eq_getD_getElem?, h1]
            rw [← this, hv, hp]; simp
          · have : cargs.getD 1 undef = cargs[1] := by simp [Array.getD_eq_getD_getElem?, h1]
            rw [← this, hv1]; simp
      obtain ⟨hrow, hlies⟩ := hH.ob 0 (.arr (rowsZ l) 1 gen) rfl
      rw [hρ] at hlies
      obtain ⟨c', e', f', k1, k2, k3, k4⟩ := hlies
      rw [hb] at k1
      cases k1
      have hfit2 : δ + l.length ≤ c.size := by omega
      have hHolds : Sort.Holds (Value.int .i64) w b δ l.toArray := by
        intro j hj
        have hj' : j < l.length := by simpa using hj
        refine ⟨?_, k2 (δ + j) (by omega)⟩
        rw [cell_of_heap hb (show δ + j < c.size by omega)]
        have h4 := k4 j 0 (by simpa [AObj.rows, rowsZ_length] using hj') (by simp [AObj.sz])
        rw [rowsZ_cell l gen hj' (by omega)] at h4
        have h5 := relD_int h4
        simp only [AObj.sz, Nat.mul_one, Nat.add_zero] at h5
        rw [h5]
        simp [hj']
      rw [hargs]
      have hc := Any.slices_SortFunc_total L (Value.int .i64) (fun _ => rfl) cf hO f #[] b δ cap l.toArray w eg
        (CmpReads.lays fun m os dk _ x y => (hcmp x y _).mono fun e w' h => ⟨h.1, 0, h.2⟩) hHolds (heap_lt hb) (by simp; omega) hT
      refine (by simpa using hc : Calls P (ρr.f 6) #[.slice (some ⟨b, δ, none⟩) l.length cap, .func (.func f) #[] #[]] w _).mono ?_
      rintro en w' ⟨rfl, m, os, rfl⟩
      refine ⟨_, ρ, rfl, ?_, .tup [] #[] rfl (fun i hi => by simp at hi)⟩
      have hwr : Wrt F ρ [.arr (rowsZ l) 1 gen] b := .inr ⟨0, _, δ, rfl, hρ⟩
      have hown := hH.own 0 _ b δ rfl hρ
      refine hH.change 0 (sortWorld_frm fun _ => hwr) ?_ ?_ ?_ ?_ ?_
      · rintro x hx hn (ha | ⟨k, o, δ', hk, hρk⟩)
        · exact hn (.inl ha)
        · cases k with
          | zero => exact hn (.inr ⟨0, _, δ', rfl, hρk⟩)
          | succ k => simp at hk
      · refine ⟨fun k o hk => ?_⟩
        cases k with
        | zero => cases hk; exact ⟨_, rfl, Nat.le_refl _, fun _ => ⟨rfl, by simp [AObj.rows, rowsZ_length, sortBy_length], rfl⟩⟩
        | succ k => simp at hk
      · intro k o hk hne
        cases k with
        | zero => exact absurd rfl hne
        | succ k => simp at hk
      · intro o hk
        cases hk
        refine ⟨⟨fun r hr => ?_, ?_⟩, fun b' δ' hρ' => ?_⟩
        · simp [AObj.rows, rowsZ] at hr
          obtain ⟨a, _, rfl⟩ := hr
          rfl
        · rw [hρ]
          refine ⟨_, e, fz, sortWorld_block hb, fun i hi => ?_, by simp [AObj.rows, AObj.sz, rowsZ_length, sortBy_length, Sort.putCells]; omega, fun i j hi hj => ?_⟩
          · have := k2 i (by simpa [Sort.putCells] using hi)
            unfold World.frozen? at this ⊢
            rw [sortWorld_block hb]
            rw [hb] at this
            exact this
          · have hi' : i < (sortBy cf l).length := by simpa [AObj.rows, rowsZ_length] using hi
            have hi2 : i < l.length := by rw [← sortBy_length cf l]; exact hi'
            rw [rowsZ_cell _ gen hi' (by simpa [AObj.sz] using hj)]
            have hj0 : j = 0 := by simp [AObj.sz] at hj; omega
            subst hj0
            have : (Sort.putCells (Value.int .i64) δ (l.mergeSort fun x y => !(ltOf cf) y x).toArray c).getD (δ + (i * 1 + 0)) undef = .int .i64 (sortBy cf l)[i] := by
              have hlt : δ + (i * 1 + 0) < c.size := by omega
              have hl2 : (l.mergeSort fun x y => !(ltOf cf) y x).length = l.length := List.length_mergeSort _
              simp only [Sort.putCells, Array.getD_eq_getD_getElem?, Array.getElem?_mapIdx, Array.getElem?_eq_getElem hlt, Option.map_some, Option.getD_some]
              rw [if_pos ⟨by omega, by simp [hl2]; omega⟩]
              have e3 : δ + (i * 1 + 0) - δ = i := by omega
              rw [e3]
              simp [sortBy, hl2, hi2]
            rw [show (AObj.arr (rowsZ (sortBy cf l)) 1 gen).sz = 1 from rfl]
            have hgoal : RelV (sortWorld (Value.int .i64) w b δ m (l.mergeSort fun x y => !(ltOf cf) y x).toArray os) (Wrt F ρ [.arr (rowsZ (sortBy cf l)) 1 gen]) ρ [.arr (rowsZ (sortBy cf l)) 1 gen] (.d (.int .i64 (sortBy cf l)[i])) (.int .i64 (sortBy cf l)[i]) := .d _ _ (.int _ _)
            rw [← this] at hgoal
            exact hgoal
        · rw [hρ] at hρ'
          cases hρ'
          refine ⟨hown.1, hown.2, fun k o' δ'' hk hne => ?_⟩
          cases k with
          | zero => exact absurd rfl hne
          | succ k => simp at hk
      · subst hw0
        exact sortWorld_frm fun hlt => hown.2.resolve_right (by omega)
    · cases hs
  · cases hs

end Go.AI
