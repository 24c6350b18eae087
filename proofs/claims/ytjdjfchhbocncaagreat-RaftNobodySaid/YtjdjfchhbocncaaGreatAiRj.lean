/- The two iterators. -/
import Derived.Test.YtjdjfchhbocncaaGreatAiRi
import Derived.RangeFuncKeeps
import Derived.RangeFuncLeaves
import Derived.Shelf.Abstract
import Derived.OwnWalkIn
import Derived.TacticsInMore
import Derived.LoopNIn
import Derived.LoopIn
namespace Go.Proofs.YtjdjfchhbocncaaGreat
open Go Go.AI Go.RowKit Go.Shelf
set_option linter.unusedVariables false

def evB (len : Nat) (vs : Nat → Nat → Value) (j : Nat) : Array Value := #[.int .i64 ((len - 1 - j : Nat) : Int), .agg #[vs (len - 1 - j) 0, vs (len - 1 - j) 1, vs (len - 1 - j) 2, vs (len - 1 - j) 3]]

def left123 : Value → Nat
  | .int _ i => (i + 1).toNat
  | _ => 0

/-- What lies where the iterator looks. -/
structure At (p : Addr) (pp : Option Addr) (b δ len cap : Nat) (vs : Nat → Nat → Value) (W : World) : Prop where
  v : W.cell? p = some (.slice pp len cap)
  e : ∀ i j, i < len → j < 4 → W.cell? ⟨b, δ + (i * 4 + j), none⟩ = some (vs i j)

set_option maxRecDepth 100000 in
set_option maxHeartbeats 1000000 in
theorem back_in (F : Fence) (n : Nat) (hF : Wide F) (hro : F.round = none) (hn : 1 ≤ n) (l : Nat) (p : Addr) (pp : Option Addr) (b δ len cap : Nat) (hpp : 0 < len → pp = some ⟨b, δ, none⟩) (vs : Nat → Nat → Value) (hlen : len < 1000) (J : Nat → World → Prop) (Jx : Unit → World → Prop) (W : World) (hJ : AbidesFrom W.heap.size J)
    (hY : ∀ j W, j < len → J j W → YieldAt F (n - 1) Tryz.prog l (evB len vs j) W fun e W' =>
      (e = .returned (.bool true) ∧ J (j + 1) W' ∧ (At p pp b δ len cap vs W → At p pp b δ len cap vs W')) ∨ (e = .returned (.bool false) ∧ Jx () W'))
    (hc : At p pp b δ len cap vs W) (h0 : J 0 W) :
    CallsIn F n Tryz.prog 123 #[.func (.yield l) #[] #[], .pointer (some p)] W fun e W' => (∃ v, e = .returned v) ∧ (J len W' ∨ Jx () W') := by
  have hd := hF.depth
  have hfn := hF.fn
  have hcv := hc.v
  refine callsIn_of_wp Tryz.func123 rfl (hF.fn 123) ?_ hro
  simp only [Tryz.ntmps123, List.size_toArray, List.length_cons, List.length_nil, Nat.reduceAdd, Nat.reduceSub, Array.replicate_succ, Array.replicate_zero, List.push_toArray, List.append_toArray, List.nil_append, List.cons_append]
  gi_wp2
  gi_loopw [3] (fun p' wr => ∃ (i : Nat), i ≤ len ∧ p' = .int .i64 ((len : Int) - 1 - i) ∧ J i wr ∧ At p pp b δ len cap vs wr) (fun p' wr => left123 p')
  case atStart =>
    exact ⟨0, Nat.zero_le _, by simp, h0, hc⟩
  case round =>
    obtain ⟨i, hi, rfl, hJs, hcs⟩ := hrel
    have hcv2 := hcs.v
    by_cases h7 : i < len
    · obtain rfl := hpp (by omega)
      obtain ⟨m, hm⟩ : ∃ m : Nat, (len : Int) - 1 - i = m := ⟨len - 1 - i, by omega⟩
      have hm' : m = len - 1 - i := by omega
      have hml : m < len := by omega
      have hmz : (m : Int) < len := by omega
      have e0 : wr.cell? ⟨b, δ + m * 4, none⟩ = some (vs m 0) := hcs.e m 0 hml (by omega)
      have e1 : wr.cell? ⟨b, δ + m * 4 + 1, none⟩ = some (vs m 1) := hcs.e m 1 hml (by omega)
      have e2 : wr.cell? ⟨b, δ + m * 4 + 2, none⟩ = some (vs m 2) := hcs.e m 2 hml (by omega)
      have e3 : wr.cell? ⟨b, δ + m * 4 + 3, none⟩ = some (vs m 3) := hcs.e m 3 hml (by omega)
      rw [hm]
      obtain ⟨fn, tmps, assign, body, hy, hR⟩ := hY i wr h7 hJs
      have hy : (Instr.yield l #[.int .i64 (m : Int), .agg #[vs m 0, vs m 1, vs m 2, vs m 3]]).run Tryz.prog wr = .ok (.round l fn tmps assign body) wr := by rw [hm']; exact hy
      clear hm'
      gi_wp2
      refine hR.mono ?_
      rintro e W3 (⟨rfl, hJ3, hk3⟩ | ⟨rfl, hJx3⟩)
      · gi_wp2
        refine ⟨⟨i + 1, by omega, by congr 1; omega, hJ3, hk3 hcs⟩, ?_⟩
        simp only [left123]; omega
      · gi_wp2
        refine bodyPost_ret (results_none rfl _ _ _) rfl ?_
        exact ⟨⟨_, rfl⟩, .inr hJx3⟩
    · have : i = len := by omega
      subst this
      gi_wp2
      go_end0
      exact ⟨⟨_, rfl⟩, .inl hJs⟩


/-- What the iterator wants to find as it was. -/
def KB (p : Addr) (pp : Option Addr) (b δ len cap : Nat) (vs : Nat → Nat → Value) (a : Addr) (v : Value) : Prop :=
  (a = p ∧ v = .slice pp len cap) ∨ ∃ i j, i < len ∧ j < 4 ∧ a = ⟨b, δ + (i * 4 + j), none⟩ ∧ v = vs i j

theorem seqB {Fe : Fence} {n : Nat} {w : World} (hF : Wide Fe) (hro : Fe.round = none) (hn : 2 ≤ n) {p : Addr} {pp : Option Addr} {b δ len cap : Nat} (hpp : 0 < len → pp = some ⟨b, δ, none⟩) {vs : Nat → Nat → Value} (hlen : len < 1000) (hc : At p pp b δ len cap vs w) :
    SeqX Fe n Tryz.prog 123 #[.pointer (some p)] ((List.range len).map (evB len vs)) (fun A B => ∀ a v, KB p pp b δ len cap vs a v → A.cell? a = some v → B.cell? a = some v) w := by
  intro l J Jx W hW hJ _ hY h0
  have hl : ((List.range len).map (evB len vs)).length = len := by simp
  rw [hl] at hY ⊢
  have hcW : At p pp b δ len cap vs W := ⟨(hW.cell (cell_lt hc.v)).trans hc.v, fun i j hi hj => (hW.cell (cell_lt (hc.e i j hi hj))).trans (hc.e i j hi hj)⟩
  refine back_in Fe n hF hro (by omega) l p pp b δ len cap hpp vs hlen J Jx W hJ (fun j W1 hj hJ1 => ?_) hcW h0
  have hy := hY j W1 hj hJ1
  have e : ((List.range len).map (evB len vs)).getD j #[] = evB len vs j := by simp [List.getD_eq_getElem?_getD, hj]
  rw [e] at hy
  obtain ⟨fn, tmps, assign, body, h1, h2⟩ := hy
  refine ⟨fn, tmps, assign, body, h1, h2.mono ?_⟩
  rintro e W' (⟨h3, h4, h5⟩ | h3)
  · exact .inl ⟨h3, h4, fun hA => ⟨h5 _ _ (.inl ⟨rfl, rfl⟩) hA.v, fun i j hi hj => h5 _ _ (.inr ⟨i, j, hi, hj, rfl, rfl⟩) (hA.e i j hi hj)⟩⟩
  · exact .inr h3

theorem backItems_get (rs : List (List D)) (off : Nat) : ∀ (n j : Nat), j < n → (backItems rs off n).getD j [] = [.d (.int .i64 ((n - 1 - j : Nat) : Int)), .agg ((rs.getD (off + (n - 1 - j)) []).map .d)]
  | 0, j, h => absurd h (Nat.not_lt_zero j)
  | n + 1, 0, h => by simp [backItems]
  | n + 1, j + 1, h => by
    have ih := backItems_get rs off n j (by omega)
    have e : n + 1 - 1 - (j + 1) = n - 1 - j := by omega
    rw [e]
    simpa [backItems] using ih
theorem backItems_length (rs : List (List D)) (off : Nat) : ∀ n, (backItems rs off n).length = n
  | 0 => rfl
  | n + 1 => by simp [backItems, backItems_length rs off n]

theorem it123_ok {cap : List AV} {objs : List AObj} {xs : List (List AV)} (h : it123 cap objs = some xs) : ItX Tryz.prog 123 cap objs xs := by
  refine ⟨enters_of Tryz.func123 (by kernel_rfl) rfl, ?_⟩
  intro Fe n F ρ w lb hF hro hn hH hsz hrel
  unfold it123 at h
  split at h
  · rename_i id g
    split at h
    · rename_i v g' ho
      obtain ⟨pv, rfl⟩ : ∃ pv, lb = #[pv] := by
        have : lb.size = 1 := hsz
        refine ⟨lb[0], Array.ext (by simpa using this) fun i h1 h2 => ?_⟩
        have hi : i = 0 := by omega
        subst hi
        rfl
      have hp : RelV w (Wrt F ρ objs) ρ objs (.ptr id g 0 0) pv := hrel 0 (by simp)
      have main : g = g' → inL (reachV objs [.ptr id g 0 0]) id = true → ∃ (b δ : Nat) (sv : Value), ρ id = some (b, δ) ∧ pv = .pointer (some ⟨b, δ, none⟩) ∧ w.cell? ⟨b, δ, none⟩ = some sv ∧ RelV w (Wrt F ρ objs) ρ objs v sv := by
        intro hg hin
        cases hp with
        | ptr _ _ _ _ _ o ho' _ _ hq =>
          rw [ho] at ho'
          cases ho'
          obtain ⟨b, δ, hρ, hpv⟩ := hq hg
          obtain ⟨e1, vs, e2, e3⟩ := row_ok hH ho hρ (i := 0) (by simp [AObj.rows])
          have e4 := e2 0 (by simp [AObj.sz])
          have e5 := e3 0 (by simp [AObj.sz])
          refine ⟨b, δ, vs 0, hρ, by simpa using hpv, by simpa using e4, by simpa [AObj.rows] using e5⟩
      split at h
      · rename_i hd
        cases h
        simp only [Bool.and_eq_true, decide_eq_true_eq] at hd
        obtain ⟨b, δ, sv, hρ, rfl, hcell, hv⟩ := main hd.1 hd.2
        cases hv
        refine ⟨[], KB ⟨b, δ, none⟩ none 0 0 0 0 (fun _ _ => undef), rfl, fun j hj => absurd hj (Nat.not_lt_zero j), ?_, ?_⟩
        · rintro a v (⟨rfl, rfl⟩ | ⟨i, j, hi, _⟩)
          · exact ⟨hcell, .inr ⟨id, _, δ, inL_iff.1 hd.2, ho, hρ⟩⟩
          · exact absurd hi (Nat.not_lt_zero i)
        · exact seqB hF hro hn (fun h => absurd h (Nat.lt_irrefl 0)) (by omega) ⟨hcell, fun i j hi => absurd hi (Nat.not_lt_zero i)⟩
      · rename_i a off len ga hd
        split at h
        · rename_i rs n' gb hoa
          split at h
          · rename_i hd2
            cases h
            simp only [Bool.and_eq_true, decide_eq_true_eq] at hd hd2
            obtain ⟨⟨hgab, rfl⟩, hlen, hina⟩ := hd2
            obtain ⟨b, δ, sv, hρ, rfl, hcell, hv⟩ := main hd.1 hd.2
            cases hv with
            | win _ _ _ _ _ o ho' _ _ hw =>
              rw [hoa] at ho'
              cases ho'
              obtain ⟨hfit, pp, cap, rfl, hcap, hq⟩ := hw hgab
              have hfit' : off + len ≤ rs.length := by simpa [AObj.rows] using hfit
              have hcap' : len ≤ cap := hcap.1
              obtain ⟨b', δ', hρa, hpp⟩ : ∃ b' δ', (0 < len → ρ a = some (b', δ')) ∧ (0 < len → pp = some ⟨b', δ' + off * 4, none⟩) := by
                rcases hq with hq | ⟨b', δ', _, _, _, hρ', hp', _, _⟩
                · exact ⟨0, 0, fun h => by omega, fun h => by omega⟩
                · exact ⟨b', δ', fun _ => hρ', fun _ => hp'⟩
              obtain ⟨vs, hvs⟩ : ∃ vs : Nat → Nat → Value, ∀ i j, i < len → j < 4 → w.cell? ⟨b', δ' + off * 4 + (i * 4 + j), none⟩ = some (vs i j) ∧ RelV w (Wrt F ρ objs) ρ objs (((rs.getD (off + i) []).map .d).getD j .undef) (vs i j) ∧ (rs.getD (off + i) []).length = 4 := by
                refine ⟨fun i j => (w.cell? ⟨b', δ' + off * 4 + (i * 4 + j), none⟩).getD undef, fun i j hi hj => ?_⟩
                obtain ⟨e1, vs, e2, e3⟩ := row_ok hH hoa (hρa (by omega)) (i := off + i) (by simp [AObj.rows]; omega)
                have er : (AObj.arr rs 4 gb).rows.getD (off + i) [] = (rs.getD (off + i) []).map AV.d := by
                  simp only [AObj.rows, List.getD_eq_getElem?_getD, List.getElem?_map]
                  cases rs[off + i]? <;> simp
                rw [er] at e1 e3
                have e4 := e2 j hj
                have e5 : δ' + ((off + i) * 4 + j) = δ' + off * 4 + (i * 4 + j) := by omega
                have e4' : w.cell? ⟨b', δ' + off * 4 + (i * 4 + j), none⟩ = some (vs j) := by rw [← e5]; exact e4
                simp only [e4', Option.getD_some]
                exact ⟨trivial, e3 j hj, by simpa [AObj.sz] using e1⟩
              refine ⟨(List.range len).map (evB len vs), KB ⟨b, δ, none⟩ pp b' (δ' + off * 4) len cap vs, by simp [backItems_length], ?_, ?_, ?_⟩
              · intro j hj
                rw [backItems_length] at hj
                rw [backItems_get rs off len j hj]
                have e : ((List.range len).map (evB len vs)).getD j #[] = evB len vs j := by simp [List.getD_eq_getElem?_getD, hj]
                rw [e]
                refine ⟨rfl, fun i hi => ?_⟩
                have hi : i = 0 ∨ i = 1 := by simp at hi; omega
                have hk := fun q (hq : q < 4) => hvs (len - 1 - j) q (by omega) hq
                rcases hi with rfl | rfl
                · exact .d _ _ (.int _ _)
                · refine .agg _ _ (by simpa using (hk 0 (by omega)).2.2) fun q hq => ?_
                  have hq : q < 4 := by
                    have := (hk 0 (by omega)).2.2
                    simp at hq
                    simp at this
                    omega
                  have := (hk q hq).2.1
                  have hqq : q = 0 ∨ q = 1 ∨ q = 2 ∨ q = 3 := by omega
                  rcases hqq with rfl | rfl | rfl | rfl <;> exact this
              · rintro c v (⟨rfl, rfl⟩ | ⟨i, j, hi, hj, rfl, rfl⟩)
                · exact ⟨hcell, .inr ⟨id, _, δ, inL_iff.1 hd.2, ho, hρ⟩⟩
                · exact ⟨(hvs i j hi hj).1, .inr ⟨a, _, δ', inL_iff.1 hina, hoa, hρa (by omega)⟩⟩
              · exact seqB hF hro hn hpp hlen ⟨hcell, fun i j hi hj => (hvs i j hi hj).1⟩
          · cases h
        · cases h
      · cases h
    · cases h
  · cases h

end Go.Proofs.YtjdjfchhbocncaaGreat
