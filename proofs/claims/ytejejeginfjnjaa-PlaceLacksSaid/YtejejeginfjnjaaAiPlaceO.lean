/- The order of ranked nodes: two of them held against each other; all of them sorted. -/
import Derived.Test.YtejejeginfjnjaaAiPlaceM
import Derived.Test.YtejejeginfjnjaaAiR
import Derived.Test.YtejejeginfjnjaaShelf
namespace Go.Proofs.Ytejejeginfjnjaa
open Go Go.AI Go.RowKit Go.Shelf
set_option linter.unusedVariables false

set_option maxHeartbeats 1000000 in
theorem cmp36 (a b : ByteArray) (w : World) :
    Calls Try.prog 36 #[.string a, .string b] w fun e w' => e = .returned (.int .i64 (Lib.compareBytes a.data.toList b.data.toList)) ∧ w' = w := by
  have mixed := mixed
  go_enter Try.func36, Try.ntmps36
  go_wp2_with (go_at_call 63; refine (cmp63 _ _ _).mono ?_; rintro e w' ⟨rfl, rfl⟩)
  go_ret
  exact ⟨rfl, rfl⟩

abbrev Rk := Fin 8 × List UInt8
def encRk (x : Rk) : List D := [.int .i64 (x.1.val : Int), .str x.2]
def decRk : List D → Rk
  | [.int _ n, .str s] => (Fin.ofNat 8 n.toNat, s)
  | _ => (0, [])
theorem decRk_enc (x : Rk) : decRk (encRk x) = x := by
  obtain ⟨i, s⟩ := x
  simp [encRk, decRk]
def cfRk (x y : Rk) : Int := if x.2 = y.2 then (x.1.val : Int) - (y.1.val : Int) else Lib.compareBytes x.2 y.2

set_option maxHeartbeats 1000000 in
theorem cmp24 (x y : Rk) (W : World) : Calls Try.prog 24 #[.agg (encV encRk x).toArray, .agg (encV encRk y).toArray] W fun e w' => e = .returned (.int .i64 (cfRk x y)) ∧ ∃ q os', w' = Sort.grow (W.drewN q) os' := by
  obtain ⟨i, a⟩ := x
  obtain ⟨j, b⟩ := y
  show Calls Try.prog 24 #[.agg #[.int .i64 (i.val : Int), .string ⟨a.toArray⟩], .agg #[.int .i64 (j.val : Int), .string ⟨b.toArray⟩]] W _
  have mixed := mixed
  go_enter Try.func24, Try.ntmps24
  go_wp2_with (go_at_call 36; refine (cmp36 _ _ _).mono ?_; rintro e w' ⟨rfl, rfl⟩)
  · rename_i h
    have hab : a = b := eq_of_beq h
    go_ret
    exact ⟨by simp [cfRk, hab], 0, _, by rw [Sort.alloc_eq_grow, Sort.alloc_eq_grow, Sort.grow_grow]; rfl⟩
  · rename_i h
    have hab : a ≠ b := by intro hh; subst hh; simp at h
    go_ret
    exact ⟨by simp [cfRk, hab], 0, _, by rw [Sort.alloc_eq_grow, Sort.alloc_eq_grow, Sort.grow_grow]; rfl⟩

open Lib in
theorem cb_swap : ∀ (a b : List UInt8), compareBytes b a = - compareBytes a b
  | [], [] => rfl
  | [], _ :: _ => rfl
  | _ :: _, [] => rfl
  | x :: a, y :: b => by
    simp only [compareBytes]
    by_cases h1 : x < y
    · have h2 : ¬ y < x := by rw [UInt8.lt_iff_toNat_lt] at h1 ⊢; omega
      rw [if_neg h2, if_pos h1, if_pos h1]; rfl
    · by_cases h2 : y < x
      · rw [if_pos h2, if_neg h1, if_pos h2]
      · rw [if_neg h2, if_neg h1, if_neg h1, if_neg h2, cb_swap a b]
open Lib in
theorem cb_zero : ∀ (a b : List UInt8), compareBytes a b = 0 ↔ a = b
  | [], [] => by simp [compareBytes]
  | [], _ :: _ => by simp [compareBytes]
  | _ :: _, [] => by simp [compareBytes]
  | x :: a, y :: b => by
    simp only [compareBytes]
    by_cases h1 : x < y
    · have : x ≠ y := by intro h; subst h; rw [UInt8.lt_iff_toNat_lt] at h1; omega
      simp [h1, this]
    · by_cases h2 : y < x
      · have : x ≠ y := by intro h; subst h; exact h1 h2
        simp [h1, h2, this]
      · have : x = y := by
          rw [UInt8.lt_iff_toNat_lt] at h1 h2
          exact UInt8.toNat_inj.1 (by omega)
        subst this
        simp [h1, cb_zero a b]
open Lib in
theorem cb_trans : ∀ (a b c : List UInt8), compareBytes a b < 0 → compareBytes b c < 0 → compareBytes a c < 0
  | [], [], _, h, _ => by simp [compareBytes] at h
  | [], _ :: _, [], _, h => by simp [compareBytes] at h
  | [], _ :: _, _ :: _, _, _ => by simp [compareBytes]
  | _ :: _, [], _, h, _ => by simp [compareBytes] at h
  | _ :: _, _ :: _, [], _, h => by simp [compareBytes] at h
  | x :: a, y :: b, z :: c, h, k => by
    simp only [compareBytes, UInt8.lt_iff_toNat_lt] at h k ⊢
    have ih := cb_trans a b c
    repeat' split at h
    all_goals repeat' split at k
    all_goals repeat' split
    all_goals first | omega | exact ih h k | skip
open Lib in
theorem less_cb : ∀ (a b : List UInt8), Op.bytesLess a b = decide (compareBytes a b < 0)
  | [], [] => by simp [Op.bytesLess, compareBytes]
  | [], _ :: _ => by simp [Op.bytesLess, compareBytes]
  | _ :: _, [] => by simp [Op.bytesLess, compareBytes]
  | x :: a, y :: b => by
    simp only [Op.bytesLess, compareBytes]
    by_cases h1 : x < y
    · simp [h1]
    · by_cases h2 : y < x
      · have : x ≠ y := by intro h; subst h; exact h1 h2
        simp [h1, h2, this]
      · have : x = y := by
          rw [UInt8.lt_iff_toNat_lt] at h1 h2
          exact UInt8.toNat_inj.1 (by omega)
        subst this
        simp [h1, less_cb a b]

theorem cf_iff (x y : Rk) : cfRk x y < 0 ↔ (Lib.compareBytes x.2 y.2 < 0 ∨ (x.2 = y.2 ∧ x.1.val < y.1.val)) := by
  unfold cfRk
  by_cases h : x.2 = y.2
  · have := (cb_zero x.2 y.2).2 h
    rw [if_pos h, this]
    simp [h]
    omega
  · rw [if_neg h]
    simp [h]
theorem cf_trans {x y z : Rk} (h : cfRk x y < 0) (k : cfRk y z < 0) : cfRk x z < 0 := by
  rw [cf_iff] at *
  rcases h with h | ⟨h1, h2⟩
  · rcases k with k | ⟨k1, k2⟩
    · exact .inl (cb_trans _ _ _ h k)
    · exact .inl (k1 ▸ h)
  · rcases k with k | ⟨k1, k2⟩
    · exact .inl (h1 ▸ k)
    · exact .inr ⟨h1.trans k1, by omega⟩
theorem cf_total (x y : Rk) : cfRk x y < 0 ∨ x = y ∨ cfRk y x < 0 := by
  rw [cf_iff, cf_iff]
  have hs := cb_swap x.2 y.2
  have hz := cb_zero x.2 y.2
  by_cases h : x.2 = y.2
  · by_cases h1 : x.1.val < y.1.val
    · exact .inl (.inr ⟨h, h1⟩)
    · by_cases h2 : y.1.val < x.1.val
      · exact .inr (.inr (.inr ⟨h.symm, h2⟩))
      · exact .inr (.inl (Prod.ext (Fin.ext (by omega)) h))
  · have hn : Lib.compareBytes x.2 y.2 ≠ 0 := fun e => h (hz.1 e)
    by_cases h1 : Lib.compareBytes x.2 y.2 < 0
    · exact .inl (.inl h1)
    · exact .inr (.inr (.inl (by omega)))
theorem cf_irrefl (x : Rk) : ¬ cfRk x x < 0 := by
  rw [cf_iff]
  have := (cb_zero x.2 x.2).2 rfl
  omega
theorem rk_swo : Sort.SWO (ltOf cfRk) where
  irrefl x := by unfold ltOf; simpa using cf_irrefl x
  trans x y z h k := by
    unfold ltOf at *
    simp only [decide_eq_true_eq] at *
    exact cf_trans h k
  ntrans x y z h k := by
    unfold ltOf at *
    simp only [decide_eq_false_iff_not] at *
    intro hxz
    rcases cf_total x y with h1 | rfl | h1
    · exact h h1
    · exact k hxz
    · exact k (cf_trans h1 hxz)
theorem rk_total (x y : Rk) (h : ltOf cfRk x y = false) (k : ltOf cfRk y x = false) : x = y := by
  unfold ltOf at *
  simp only [decide_eq_false_iff_not] at *
  rcases cf_total x y with h1 | h1 | h1
  · exact absurd h1 h
  · exact h1
  · exact absurd h1 k

noncomputable def S23 : List AV → List AObj → Option (AV × List AObj) := sortK 24 2 encRk decRk cfRk
theorem S23_ok : SpecO Try.prog 23 S23 :=
  sortK_ok Try.sortRk 24 2 encRk decRk cfRk (by omega) (fun _ => rfl) (fun a x hx => by simp [encRk] at hx; rcases hx with rfl | rfl <;> rfl) Try.isAgg39 Try.sizeOf39
    (enters_of Try.func23 (by kernel_rfl) rfl) (enters_of Try.func24 (by kernel_rfl) rfl) cmp24 rk_swo rk_total
end Go.Proofs.Ytejejeginfjnjaa
