/- An array of seven integers as a law's argument: taken apart, and put together. -/
import Derived.WalkKit
import Derived.ProofKit
import Derived.OpenShut
namespace Go.AI
open Go.ChangeShapes Go.WideShapes Go.ChangeAt Go.RowKit
section
variable {H : Type} {enc : TypeId × Value → H} {P : Program} {w : World} {base : Nat} {spare : Nat → Bool} {held : Bool}

theorem list7 {α : Type} (l : List α) (h : l.length = 7) : ∃ a b c d e f g, l = [a, b, c, d, e, f, g] := by
  match l, h with
  | [a, b, c, d, e, f, g], _ => exact ⟨a, b, c, d, e, f, g, rfl⟩

def ints7 (k : IntKind) (a0 a1 a2 a3 a4 a5 a6 : Int) : Value := .agg #[.int k a0, .int k a1, .int k a2, .int k a3, .int k a4, .int k a5, .int k a6]
def data7 (k : IntKind) (a0 a1 a2 a3 a4 a5 a6 : Int) : DataW H := .agg [.lit (.int k a0), .lit (.int k a1), .lit (.int k a2), .lit (.int k a3), .lit (.int k a4), .lit (.int k a5), .lit (.int k a6)]

theorem open_ints7 {r : Reach} {b0 : Nat} {t e : TypeId} {k : IntKind} {v : Value} {d : DataW H} {ps : List MemPlace} (ht : P.underlying t = some (.array 7 e)) (he : P.underlying e = some (.int k)) (hce : P.cellsOf e = 1) (hct : P.cellsOf t = 7)
    (hval : Value.okWide P w r b0 t v) (hd : DataW.Trod enc P w base spare held t v d ps) :
    ∃ a0 a1 a2 a3 a4 a5 a6, v = ints7 k a0 a1 a2 a3 a4 a5 a6 ∧ d = data7 k a0 a1 a2 a3 a4 a5 a6 ∧ ps = [] ∧ (Lit.int k a0).wf = true ∧ (Lit.int k a1).wf = true ∧ (Lit.int k a2).wf = true ∧ (Lit.int k a3).wf = true ∧ (Lit.int k a4).wf = true ∧ (Lit.int k a5).wf = true ∧ (Lit.int k a6).wf = true := by
  obtain ⟨cs, rfl, hsz⟩ : ∃ cs, v = .agg cs ∧ cs.size = 7 := by
    have : ∃ cs, v = .agg cs ∧ cs.size = P.cellsOf t ∧ Row.okWide P w r b0 t cs := by simpa [Value.okWide, ht] using hval
    obtain ⟨cs, h1, h2, _⟩ := this
    exact ⟨cs, h1, h2.trans hct⟩
  obtain ⟨l⟩ := cs
  obtain ⟨c0, c1, c2, c3, c4, c5, c6, rfl⟩ := list7 l (by simpa using hsz)
  obtain ⟨fuel, hf⟩ := hd
  obtain ⟨xs, m, _, hx, _, hxl, hi⟩ := DataW.trod_array ht hf
  obtain ⟨x0, x1, x2, x3, x4, x5, x6, rfl⟩ := list7 xs hxl
  have g0 := hi 0 (by omega); have g1 := hi 1 (by omega); have g2 := hi 2 (by omega); have g3 := hi 3 (by omega); have g4 := hi 4 (by omega); have g5 := hi 5 (by omega); have g6 := hi 6 (by omega)
  simp [hce, Value.cells] at g0 g1 g2 g3 g4 g5 g6
  obtain ⟨a0, e0, rfl, w0⟩ := DataW.trod_int he g0
  obtain ⟨a1, e1, rfl, w1⟩ := DataW.trod_int he g1
  obtain ⟨a2, e2, rfl, w2⟩ := DataW.trod_int he g2
  obtain ⟨a3, e3, rfl, w3⟩ := DataW.trod_int he g3
  obtain ⟨a4, e4, rfl, w4⟩ := DataW.trod_int he g4
  obtain ⟨a5, e5, rfl, w5⟩ := DataW.trod_int he g5
  obtain ⟨a6, e6, rfl, w6⟩ := DataW.trod_int he g6
  simp at e0 e1 e2 e3 e4 e5 e6
  subst e0 e1 e2 e3 e4 e5 e6
  simp only [Prod.mk.injEq] at hx
  exact ⟨a0, a1, a2, a3, a4, a5, a6, rfl, hx.1, by rw [hx.2]; rfl, w0, w1, w2, w3, w4, w5, w6⟩

theorem shut_ints7 {t e : TypeId} {k : IntKind} {a0 a1 a2 a3 a4 a5 a6 : Int} (ht : P.underlying t = some (.array 7 e)) (he : P.underlying e = some (.int k)) (hce : P.cellsOf e = 1) (hct : P.cellsOf t = 7)
    (w0 : (Lit.int k a0).wf = true) (w1 : (Lit.int k a1).wf = true) (w2 : (Lit.int k a2).wf = true) (w3 : (Lit.int k a3).wf = true) (w4 : (Lit.int k a4).wf = true) (w5 : (Lit.int k a5).wf = true) (w6 : (Lit.int k a6).wf = true) :
    DataW.Trod enc P w base spare held t (ints7 k a0 a1 a2 a3 a4 a5 a6) (data7 k a0 a1 a2 a3 a4 a5 a6) [] :=
  ⟨2, by simp [ints7, data7, DataW.trod, Value.cells, ht, he, hce, hct, w0, w1, w2, w3, w4, w5, w6, show List.range 7 = [0, 1, 2, 3, 4, 5, 6] from rfl]⟩
end
end Go.AI
