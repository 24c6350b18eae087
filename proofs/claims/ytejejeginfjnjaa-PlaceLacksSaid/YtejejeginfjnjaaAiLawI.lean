/- The rows of laws, out of their contracts: each returns true for every input; the input stays. -/
import Derived.Test.YtejejeginfjnjaaRows
import Derived.Test.YtejejeginfjnjaaAiPlaceYd
import Derived.WalkKit
import Derived.ProofKit
import Derived.OpenShut
import Derived.ShutString
import Derived.ChangeOld
import Derived.Below
import Derived.SizedLaws
import Derived.SliceStrings
import Derived.Carry
namespace Go.Proofs.Ytejejeginfjnjaa
open Go Go.AI Go.ChangeShapes Go.WideShapes Go.ChangeAt Go.RowKit
open Go.ChangeMaps (open_string shut_string)
set_option linter.unusedVariables false
theorem ownKnobNone : ownKnob Try.prog.godebug = none := by kernel_rfl

theorem calls_of {f : Nat} {S : List AV → Option AV} (h : SpecOk Try.prog f S) {args : List AV} {b : Bool} (hs : S args = some (.d (.bool b))) {cargs : Array Value} {W : World} (hsz : cargs.size = args.length)
    (hrel : ∀ i, i < args.length → RelV W (fun _ => False) (fun _ => Option.none) [] (args.getD i .undef) (cargs.getD i undef)) :
    Calls Try.prog f cargs W fun e W' => e = .returned (.bool b) ∧ Go.RowKit.Below W.heap.size W W' := by
  refine ((h _ _ hs).2.2 (fun _ => False) W cargs (fun _ h => h.elim) hsz hrel).mono fun e W' ⟨v, he, hv, hf⟩ => ?_
  cases hv with
  | d _ _ hd => cases hd; exact ⟨he, hf.below⟩
theorem cellsStr : Try.prog.cellsOf 9 = 1 := by kernel_rfl
theorem laidAll : laidOutB Try.prog = true := by kernel_rfl
set_option maxRecDepth 100000 in
theorem open_S {H : Type} {enc : TypeId × Value → H} {W : World} {base b0 : Nat} {r : Reach} {spare : Nat → Bool} {held : Bool} {v : Value} {d : DataW H} {ps : List MemPlace} (hok : Value.okWide Try.prog W r b0 28 v) (h : DataW.Trod enc Try.prog W base spare held 28 v d ps) :
    ∃ A : List (List UInt8), RelV W (fun _ => False) (fun _ => Option.none) [] (.d (.sl (strsD A))) v := by
  obtain ⟨a0, len, cap, rfl⟩ := okWide_slice Try.underlying28 hok
  obtain ⟨fuel, hf⟩ := h
  rcases open_strings Try.underlying28 Try.underlying9 cellsStr hf with ⟨hcs, _⟩ | ⟨a, len', cap', ss, hcs, _, hl, _, hz, _, hcell, _⟩
  · have hcs : [Value.slice a0 len cap] = [Value.slice Option.none 0 0] := hcs
    cases hcs
    exact ⟨[], .d _ _ (.sl0 _ _)⟩
  · have hcs : [Value.slice a0 len cap] = [Value.slice (some a) len' cap'] := hcs
    cases hcs
    have hlen : len ≤ ss.length := by rw [hz]; split <;> omega
    rcases Nat.eq_zero_or_pos len with h0 | h0
    · subst h0
      exact ⟨[], .d _ _ (.sl0 _ _)⟩
    · obtain ⟨b, off, spot⟩ := a
      have hc0 := hcell 0 (by omega)
      cases spot with
      | some s =>
        exfalso
        simp [World.cell?, Addr.add] at hc0
        split at hc0 <;> cases hc0
      | none =>
        have hll : (strsD ((ss.take len).map fun s => s.data.toList)).length = len := by rw [strsD_length, List.length_map, List.length_take]; omega
        refine ⟨(ss.take len).map fun s => s.data.toList, .d _ _ ?_⟩
        have key := RelD.sl (w := W) (Wr := fun _ => False) (strsD ((ss.take len).map fun s => s.data.toList)) b off 1 cap (fun i _ => .string (ss.getD i ByteArray.empty)) (by intro e; rw [e] at hll; simp at hll; omega) Nat.one_pos (fun h => h)
          (fun r hr => by obtain ⟨s, _, rfl⟩ := List.mem_map.1 hr; rfl)
          (fun i j hi hj => by
            have hj : j = 0 := by omega
            subst hj
            have := hcell i (by omega)
            rw [add_place] at this
            simpa using this)
          (fun i j hi hj => by
            have hj : j = 0 := by omega
            subst hj
            have hi' : i < len := by omega
            have e : rcell (strsD ((ss.take len).map fun s => s.data.toList)) i 0 = .str (ss.getD i ByteArray.empty).data.toList := by
              simp [rcell, strsD, List.getD_eq_getElem?_getD, List.getElem?_take_of_lt hi', show i < ss.length by omega]
            rw [e]
            exact .str _ _ rfl) (by omega)
        rw [hll] at key
        exact key

theorem walkPlaceLacks (a0 : Int) (a1 : Int) (a2 : List (List UInt8)) (v2 : Value) (a3 : List (List UInt8)) (v3 : Value) (W : World) (w2 : RelV W (fun _ => False) (fun _ => Option.none) [] (.d (.sl (strsD a2))) v2) (w3 : RelV W (fun _ => False) (fun _ => Option.none) [] (.d (.sl (strsD a3))) v3) : Calls Try.prog 4 #[.int .i64 a0, .int .i64 a1, v2, v3] W fun e W' => e = .returned (.bool true) ∧ Below W.heap.size W W' := by
  refine calls_of S4_ok (args := [.d (.int .i64 a0), .d (.int .i64 a1), .d (.sl (strsD a2)), .d (.sl (strsD a3))]) (by simp only [S4]; rw [if_pos ⟨strsD_all _, strsD_all _⟩]) rfl ?_
  intro i hi
  match i, hi with
  | 0, _ => exact .d _ _ (.int _ _)
  | 1, _ => exact .d _ _ (.int _ _)
  | 2, _ => exact w2
  | 3, _ => exact w3

set_option maxRecDepth 100000 in
theorem liftedPlaceLacks (os : Os) (started : os.Started) (H : Type) (enc : TypeId × Value → H) :
    ReturnsInHanded {} Try.checked os 4 .any (Rows.placeLacksSpec.pre6 enc Try.prog Try.f4 Rows.placeLacksRow.domain false) (Rows.placeLacksSpec.post enc Try.prog Try.f4 false true false false) := by
  refine returnsInHanded_of_change_sized (C := Try.checked) ownKnobNone started (by kernel_rfl) Try.func4
    (ChangeSpec.witness6 (enc := enc) (C := Try.checked) false ⟨#[], #[.int .i64 0, .int .i64 0, .slice Option.none 0 0, .slice Option.none 0 0], []⟩ 8 (by kernel_rfl) (by kernel_rfl) (by kernel_rfl) (by kernel_rfl)) ?_
  intro W base args ds gs before hval0 hW hcnd hsz0 _
  have hval : ∀ (j : Nat) t v, Try.f4.params[j]? = some t → args[j]? = some v → Value.okWide Try.prog W .any base t v := hval0
  have hW' := hW
  obtain ⟨p, q, hA0, hV, rfl, hfz, hnd⟩ := hW
  have hA : DataW.TrodAll enc Try.prog W 0 (fun _ => true) true Try.f4.params.toList args.toList ds p := hA0
  rw [Try.params4] at hA hval
  obtain ⟨v0, vs0, d0, ds0, p0, q0, hargs, rfl, rfl, h0, r0⟩ := trodAll_cons hA
  obtain ⟨v1, vs1, d1, ds1, p1, q1, rfl, rfl, rfl, h1, r1⟩ := trodAll_cons r0
  obtain ⟨v2, vs2, d2, ds2, p2, q2, rfl, rfl, rfl, h2, r2⟩ := trodAll_cons r1
  obtain ⟨v3, vs3, d3, ds3, p3, q3, rfl, rfl, rfl, h3, r3⟩ := trodAll_cons r2
  obtain ⟨rfl, rfl, rfl⟩ := trodAll_nil r3
  obtain rfl : args = #[v0, v1, v2, v3] := by cases args; simp_all
  obtain ⟨rfl, rfl⟩ := trodVars_none hV
  obtain ⟨a0, rfl, rfl, rfl, w0⟩ := open_int Try.underlying3 (hval 0 3 v0 rfl rfl) h0
  obtain ⟨a1, rfl, rfl, rfl, w1⟩ := open_int Try.underlying3 (hval 1 3 v1 rfl rfl) h1
  obtain ⟨a2, w2⟩ := open_S (hval 2 28 v2 rfl rfl) h2
  obtain ⟨a3, w3⟩ := open_S (hval 3 28 v3 rfl rfl) h3
  refine (walkPlaceLacks a0 a1 a2 v2 a3 v3 W w2 w3).mono fun e W' ⟨he, bel⟩ => ?_
  subst he
  exact ⟨_, rfl, _, _, _, [], _, [], hW', trodAll_mk1 (shut_bool Try.underlying4 _), (trodAll_cons_mk (shut_int Try.underlying3 w0) (trodAll_cons_mk (shut_int Try.underlying3 w1) (trodAll_cons_mk (Below.trod laidAll (by kernel_rfl) (of_decide_eq_true (by kernel_rfl)) h2 bel (by obtain ⟨n, hn⟩ := h2; exact DataW.trod_lt n _ _ _ hn)) (trodAll_cons_mk (Below.trod laidAll (by kernel_rfl) (of_decide_eq_true (by kernel_rfl)) h3 bel (by obtain ⟨n, hn⟩ := h3; exact DataW.trod_lt n _ _ _ hn)) trodAll_mk0)))), rfl, bel.frame _, fun h => by cases h⟩

theorem placeLacks_holds : Rows.PlaceLacksSaid :=
  OpenClaim.holds_of_wide 4 Try.f4 rfl rfl rfl rfl rfl rfl rfl ⟨rfl, rfl, rfl, rfl, rfl⟩ rfl rfl rfl rfl rfl (by kernel_rfl) Try.func4 (by kernel_rfl)
    (of_decide_eq_true (by kernel_rfl)) (by unfold Func.isWrapper; first | (rw [if_pos (by decide +kernel)]; kernel_rfl) | (rw [if_neg (by decide +kernel)]; exact ⟨rfl, rfl⟩))
    (fun os started H enc _ => liftedPlaceLacks os started H enc)
end Go.Proofs.Ytejejeginfjnjaa
#print axioms Go.Proofs.Ytejejeginfjnjaa.placeLacks_holds
