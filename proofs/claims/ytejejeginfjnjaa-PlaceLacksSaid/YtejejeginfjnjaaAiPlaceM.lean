/- Texts held against each other, as the library does it; two nodes held against each other. -/
import Derived.Test.YtejejeginfjnjaaAiPlaceL
import Derived.WalkKit
import Derived.WalkSpells
import Derived.Lib.Bytealg
namespace Go.Proofs.Ytejejeginfjnjaa
open Go Go.AI Go.RowKit
set_option linter.unusedVariables false

set_option maxHeartbeats 1000000 in
set_option maxRecDepth 100000 in
theorem cmp63 (a b : ByteArray) (w : World) :
    Calls Try.prog 63 #[.string a, .string b] w fun e w' => e = .returned (.int .i64 (Lib.compareBytes a.data.toList b.data.toList)) ∧ w' = w := by
  have mixed := mixed
  go_enter Try.func63, Try.ntmps63
  go_wp2
  rw [run_callFunc_extern Try.func82 (by kernel_rfl) (by kernel_rfl) (by kernel_rfl) (e := Extern.BytealgCompare.compare) (by kernel_rfl), Lib.run_compareString]
  simp only [Result.andThen]
  rw [Oper.upon_value]
  go_wp2
  go_ret
  exact ⟨rfl, rfl⟩

def S63 : List AV → Option AV
  | [.d (.str a), .d (.str b)] => some (.d (.int .i64 (Lib.compareBytes a b)))
  | _ => none

theorem S63_ok : SpecOk Try.prog 63 S63 := by
  intro args r h
  unfold S63 at h
  split at h
  · rename_i a b
    cases h
    refine ⟨fun cargs w => ?_, fun i hi => ?_, ?_⟩
    · have hn : Try.f63.name ≠ "runtime.NumGoroutine" := by decide
      simp [callFunc, Try.func63, hn, mark]
      intro h
      exact absurd h (by simp [Try.f63])
    · match i, hi with
      | 0, _ => rfl
      | 1, _ => rfl
    · intro Am w cargs hAm hsz hrel
      have h0 := hrel 0 (by simp)
      have h1 := hrel 1 (by simp)
      obtain ⟨x, e0, rfl⟩ := relD_str h0
      obtain ⟨y, e1, rfl⟩ := relD_str h1
      have hc : cargs = #[.string x, .string y] := by
        have hs : cargs.size = 2 := hsz
        apply Array.ext
        · simpa using hs
        · intro i hi1 hi2
          have : i = 0 ∨ i = 1 := by simp at hi2; omega
          rcases this with rfl | rfl
          · simpa [Array.getD_eq_getD_getElem?, hs] using e0
          · simpa [Array.getD_eq_getD_getElem?, hs] using e1
      subst hc
      refine (cmp63 x y w).mono ?_
      rintro e w' ⟨rfl, rfl⟩
      exact ⟨_, rfl, .d _ _ (.int _ _), Frm.refl _ _⟩
  · cases h
end Go.Proofs.Ytejejeginfjnjaa
