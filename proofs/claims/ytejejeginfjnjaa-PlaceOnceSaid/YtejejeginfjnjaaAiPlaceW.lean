/- The library's sort of integers, as a contract over objects; a copy of a slice; the law that each node stands in the order once. -/
import Derived.Test.YtejejeginfjnjaaAiPlaceV
import Derived.Shelf.Sort.AssemblyIn
import Derived.Sort.EveryDepth
import Derived.Test.YtejejeginfjnjaaShelfZ
namespace Go.AI
open Go.Shelf Go.Proofs
set_option linter.unusedVariables false

def sortZ (l : List Int) : List Int := l.mergeSort fun x y => decide (x ≤ y)
theorem sortZ_length (l : List Int) : (sortZ l).length = l.length := by simp [sortZ, List.length_mergeSort]

def sortI : List AV → List AObj → Option (AV × List AObj)
  | [.win id off n gen], [.arr rs k g] =>
    if (id = 0 ∧ off = 0) ∧ (gen = g ∧ k = 1 ∧ n = rs.length) ∧ 0 < n ∧ n < 1000000000 ∧ rs.all isI64 = true then some (.tup [], [.arr (rowsZ (sortZ (rs.map intOf))) 1 g]) else none
  | _, _ => none

theorem sortI_ok {P : Program} {ρr : Ren} (L : Lays.n189 P ρr) (ef : ∀ args w, (callFunc (ρr.f 189) args).run P w = .ok (.enter (ρr.f 189) args) w) : SpecO P (ρr.f 189) sortI := by
  intro args objs r objs' hs
  refine ⟨ef, ?_⟩
  unfold sortI at hs
  split at hs
  · rename_i id off n gen rs k g
    split at hs
    · rename_i hcond
      obtain ⟨⟨rfl, rfl⟩, ⟨rfl, rfl, rfl⟩, hpos, hsmall, hrs⟩ := hcond
      cases hs
      replace hrs := rowsZ_of hrs
      generalize hl : rs.map intOf = l at hrs ⊢
      subst hrs
      rw [rowsZ_length] at hpos hsmall ⊢
      intro F ρ w cargs hw0 ho0 hr0 hH hsz hrel
      obtain ⟨p, cap, b, δ, c, e, fz, hv, hcap, hρ, hp, hb, hfit⟩ : ∃ p cap b δ c e fz, cargs.getD 0 undef = .slice p l.length cap ∧ l.length ≤ cap ∧ ρ 0 = some (b, δ) ∧ p = some ⟨b, δ + 0 * 1, none⟩ ∧ w.heap[b]? = some (.cells c e fz) ∧ δ + cap * 1 ≤ c.size := by
        have h0 : RelV w _ ρ _ (.win 0 0 l.length gen) (cargs.getD 0 undef) := hrel 0 (by simp)
        generalize cargs.getD 0 undef = v0 at h0
        cases h0 with
        | win _ _ _ _ _ o ho hg hsl h =>
          cases ho
          obtain ⟨_, p, cap, hv, hc, hp⟩ := h rfl
          have hc : l.length ≤ cap := hc.1
          rcases hp with h0 | ⟨b, δ, c, e, fz, h1, h2, h3, h4⟩
          · omega
          · exact ⟨p, cap, b, δ, c, e, fz, hv, hc, h1, h2, h3, by simpa [AObj.sz] using h4⟩
      have hargs : cargs = #[.slice (some ⟨b, δ, none⟩) l.length cap] := by
        have hs2 : cargs.size = 1 := by simpa using hsz
        apply Array.ext
        · simpa using hs2
        · intro i h1 h2
          have : i = 0 := by omega
          subst this
          have : cargs.getD 0 undef = cargs[0] := by simp [Array.getD_eq_getD_getElem?, h1]
          rw [← this, hv, hp]; simp
      obtain ⟨hrow, hlies⟩ := hH.ob 0 (.arr (rowsZ l) 1 gen) rfl
      rw [hρ] at hlies
      obtain ⟨c', e', f', k1, k2, k3, k4⟩ := hlies
      rw [hb] at k1
      cases k1
      have hfit2 : δ + l.length ≤ c.size := by omega
      have hHolds : Sort.Holds (Value.int .i64) w b δ l.toArray := by
        intro j hj
        have hj' : j < l.length := by simpa using hj
        refine ⟨?_, k2 (δ + j) (by omega)⟩
        rw [cell_of_heap hb (show δ + j < c.size by omega)]
        have h4 := k4 j 0 (by simpa [AObj.rows, rowsZ_length] using hj') (by simp [AObj.sz])
        rw [rowsZ_cell l gen hj' (by omega)] at h4
        have h5 := relD_int h4
        simp only [AObj.sz, Nat.mul_one, Nat.add_zero] at h5
        rw [h5]
        simp [hj']
      rw [hargs]
      have hc := calls_of_every_depth fun D => AnyS.slices_Sort_int_in L D b δ cap l w hHolds (heap_lt hb) (by omega)
      refine (hc : Calls P (ρr.f 189) #[.slice (some ⟨b, δ, none⟩) l.length cap] w _).mono ?_
      rintro en w' ⟨rfl, m, os, hw'⟩
      replace hw' : w' = sortWorld (Value.int .i64) w b δ m (sortZ l).toArray os := hw'
      subst hw'
      refine ⟨_, ρ, rfl, ?_, .tup [] #[] rfl (fun i hi => by simp at hi)⟩
      have hwr : Wrt F ρ [.arr (rowsZ l) 1 gen] b := .inr ⟨0, _, δ, rfl, hρ⟩
      have hown := hH.own 0 _ b δ rfl hρ
      refine hH.change 0 (sortWorld_frm fun _ => hwr) ?_ ?_ ?_ ?_ ?_
      · rintro x hx hn (ha | ⟨k, o, δ', hk, hρk⟩)
        · exact hn (.inl ha)
        · cases k with
          | zero => exact hn (.inr ⟨0, _, δ', rfl, hρk⟩)
          | succ k => simp at hk
      · refine ⟨fun k o hk => ?_⟩
        cases k with
        | zero => cases hk; exact ⟨_, rfl, Nat.le_refl _, fun _ => ⟨rfl, by simp [AObj.rows, rowsZ_length, sortZ_length], rfl⟩⟩
        | succ k => simp at hk
      · intro k o hk hne
        cases k with
        | zero => exact absurd rfl hne
        | succ k => simp at hk
      · intro o hk
        cases hk
        refine ⟨⟨fun r hr => ?_, ?_⟩, fun b' δ' hρ' => ?_⟩
        · simp [AObj.rows, rowsZ] at hr
          obtain ⟨a, _, rfl⟩ := hr
          rfl
        · rw [hρ]
          refine ⟨_, e, fz, sortWorld_block hb, fun i hi => ?_, by simp [AObj.rows, AObj.sz, rowsZ_length, sortZ_length, Sort.putCells]; omega, fun i j hi hj => ?_⟩
          · have := k2 i (by simpa [Sort.putCells] using hi)
            unfold World.frozen? at this ⊢
            rw [sortWorld_block hb]
            rw [hb] at this
            exact this
          · have hi' : i < (sortZ l).length := by simpa [AObj.rows, rowsZ_length] using hi
            have hi2 : i < l.length := by rw [← sortZ_length l]; exact hi'
            rw [rowsZ_cell _ gen hi' (by simpa [AObj.sz] using hj)]
            have hj0 : j = 0 := by simp [AObj.sz] at hj; omega
            subst hj0
            have : (Sort.putCells (Value.int .i64) δ (sortZ l).toArray c).getD (δ + (i * 1 + 0)) undef = .int .i64 (sortZ l)[i] := by
              have hlt : δ + (i * 1 + 0) < c.size := by omega
              have hl2 : (sortZ l).length = l.length := sortZ_length l
              simp only [Sort.putCells, Array.getD_eq_getD_getElem?, Array.getElem?_mapIdx, Array.getElem?_eq_getElem hlt, Option.map_some, Option.getD_some]
              rw [if_pos ⟨by omega, by simp [hl2]; omega⟩]
              have e3 : δ + (i * 1 + 0) - δ = i := by omega
              rw [e3]
              simp [hl2, hi2]
            rw [show (AObj.arr (rowsZ (sortZ l)) 1 gen).sz = 1 from rfl]
            have hgoal : RelV (sortWorld (Value.int .i64) w b δ m (sortZ l).toArray os) (Wrt F ρ [.arr (rowsZ (sortZ l)) 1 gen]) ρ [.arr (rowsZ (sortZ l)) 1 gen] (.d (.int .i64 (sortZ l)[i])) (.int .i64 (sortZ l)[i]) := .d _ _ (.int _ _)
            rw [← this] at hgoal
            exact hgoal
        · rw [hρ] at hρ'
          cases hρ'
          refine ⟨hown.1, hown.2, fun k o' δ'' hk hne => ?_⟩
          cases k with
          | zero => exact absurd rfl hne
          | succ k => simp at hk
      · subst hw0
        exact sortWorld_frm fun hlt => hown.2.resolve_right (by omega)
    · cases hs
  · cases hs

end Go.AI

namespace Go.Proofs.Ytejejeginfjnjaa
open Go Go.AI Go.Shelf
set_option linter.unusedVariables false

def S20 : List AV → List AObj → Option (AV × List AObj)
  | [.d (.sl (r :: rs))], [] => if ((r :: rs).all isI64 = true ∧ (r :: rs).length < 1000000000) then some (.win 0 0 (r :: rs).length 2, [.arr (r :: rs) 1 2]) else none
  | _, _ => none

theorem S20_ok : SpecO Try.prog 20 S20 := by
  refine specO_of T_ok (tbl0_ok _) mixed Try.func20 (by kernel_rfl) rfl (by kernel_rfl) ?_
  intro args objs r objs' h
  unfold S20 at h
  split at h
  · rename_i x rs
    split at h
    · rename_i hc
      cases h
      refine ⟨by simp [Try.f20], ?_⟩
      obtain ⟨h1, h2⟩ := hc
      have h1 := rowsZ_of h1
      repeat' (first | ((conv => whnf); intro _ _) | ((conv => whnf); refine And.intro ?_ ?_ <;> intro h <;> cases h) | ((conv => whnf); refine And.intro (?_ : Side _) ?_) | ((conv => whnf); refine Or.inl ?_) | fail)
      all_goals (conv => whnf)
      · exact absurd ‹true = false› (by decide)
      · refine ⟨rfl, fun r hr => ?_, by decide, by decide, ⟨rfl, by decide⟩, rfl, ?_⟩
        · rw [h1] at hr
          simp only [rowsZ, List.mem_map] at hr
          obtain ⟨a, _, rfl⟩ := hr
          rfl
        · show (0 + (x :: rs).length) * 8 ≤ 140737488355328
          omega
      · exact ⟨congrArg (fun z => AV.win 0 0 z 2) (Nat.zero_add _), rfl⟩
    · cases h
  · cases h

def S21 : List AV → List AObj → Option (AV × List AObj) := sortI
theorem S21_ok : SpecO Try.prog 21 S21 := sortI_ok Try.sortZ (enters_of Try.func21 (by kernel_rfl) rfl)

theorem sortZ_ord (s : List UInt8) (n : Int) : sortZ ((ordI s n).map fun x : Nat => (x : Int)) = (List.range (clamp7 n)).map fun x : Nat => (x : Int) := by
  have hp : (sortZ ((ordI s n).map fun x : Nat => (x : Int))).Perm ((List.range (clamp7 n)).map fun x : Nat => (x : Int)) :=
    (List.mergeSort_perm _ _).trans ((ordQ_perm (rkB s) (clamp7 n)).map _)
  refine hp.eq_of_pairwise (le := fun a b => a ≤ b) (fun a b _ _ h1 h2 => Int.le_antisymm h1 h2) ?_ ?_
  · have := List.pairwise_mergeSort (le := fun x y : Int => decide (x ≤ y)) (fun a b c h1 h2 => by simp at *; omega) (fun a b => by simp; omega) ((ordI s n).map fun x : Nat => (x : Int))
    exact this.imp fun h => of_decide_eq_true h
  · rw [List.pairwise_map]
    exact List.pairwise_lt_range.imp fun h => by omega

theorem count_has (s : List UInt8) (n : Int) : ((List.range (clamp7 n)).countP fun k : Nat => hasI s n (k : Int)) = min (clamp7 n) 3 := by
  have hnd : (nodesI s n).Nodup := ((ordQ_perm (rkB s) (clamp7 n)).nodup_iff.2 List.nodup_range).sublist (List.take_sublist _ _)
  have hmem : ∀ k ∈ nodesI s n, k < clamp7 n := fun k hk => List.mem_range.1 ((ordQ_perm (rkB s) (clamp7 n)).mem_iff.1 (List.mem_of_mem_take hk))
  have hh : ∀ k : Nat, hasI s n (k : Int) = decide (k ∈ nodesI s n) := by
    intro k
    unfold hasI
    rw [decide_eq_decide, List.mem_map]
    exact ⟨fun ⟨a, h1, h2⟩ => (Int.ofNat_inj.1 h2) ▸ h1, fun h => ⟨k, h, rfl⟩⟩
  have hp : ((List.range (clamp7 n)).filter fun k : Nat => hasI s n (k : Int)).Perm (nodesI s n) := by
    refine (List.perm_ext_iff_of_nodup (List.nodup_range.sublist List.filter_sublist) hnd).2 fun k => ?_
    rw [List.mem_filter, List.mem_range, hh]
    simp only [decide_eq_true_eq]
    exact ⟨fun h => h.2, fun h => ⟨hmem k h, h⟩⟩
  rw [List.countP_eq_length_filter, hp.length_eq, nodesI, List.length_take, ordI_length]
  omega

end Go.Proofs.Ytejejeginfjnjaa
