/- The members, one behind the other; and what is owed for the run. -/
import Derived.Test.YtjdjfchhbocncaaGreatAiRj
namespace Go.Proofs.YtjdjfchhbocncaaGreat
open Go Go.AI Go.RowKit Go.Shelf
set_option linter.unusedVariables false

/-- The run without iterators. -/
noncomputable def E0 : XE := { E with itx := fun _ _ _ => Option.none }
theorem E0_ok : E0.Ok :=
  ⟨T_ok, mixed, tblQ_ok ⟨by kernel_rfl, by kernel_rfl⟩ (tbl0_ok _), fun g args r h => (by cases h), fun f cap objs xs h => (by cases h), fun g fn h => ⟨fnR_ok g fn h, rfl⟩⟩

noncomputable def has1 (c i : Nat) : Bool :=
  match E0.call 10 106 [.d (.int .i64 (c : Int)), .d (.int .i64 (i : Int))] [] with
  | some (.d (.bool b), []) => b == c.testBit i
  | _ => false
set_option maxRecDepth 100000 in
theorem has_all : ((List.range 16).all fun c => (List.range 7).all fun i => has1 c i) = true := by kernel_rfl

theorem has_calls {c i : Nat} (hc : c < 16) (hi : i < 7) (W : World) : Calls Tryz.prog 106 #[.int .i64 (c : Int), .int .i64 (i : Int)] W fun e w' => e = .returned (.bool (c.testBit i)) ∧ W.grownBy w' none := by
  have h := has_all
  rw [List.all_eq_true] at h
  have h := h c (List.mem_range.2 hc)
  rw [List.all_eq_true] at h
  have h := h i (List.mem_range.2 hi)
  unfold has1 at h
  split at h
  · rename_i b hb
    have hs := (E0_ok.call_ok 10 106 _ _ _ _ hb).2
    let F : Fr := ⟨0, [], fun _ => False, fun _ => False, W, [], fun _ => Option.none⟩
    have hH : RelH F (fun _ => Option.none) [] W := ⟨fun id o h => by simp at h, fun id id' o o' b δ δ' h => by simp at h, fun id o b δ h => by simp at h, fun _ h => h.elim, Frm.refl _ _, Ext.refl _ _⟩
    refine (hs F (fun _ => Option.none) W #[.int .i64 (c : Int), .int .i64 (i : Int)] rfl rfl rfl hH rfl ?_).mono ?_
    · intro j hj
      have : j = 0 ∨ j = 1 := by simp at hj; omega
      rcases this with rfl | rfl
      · exact .d _ _ (.int _ _)
      · exact .d _ _ (.int _ _)
    · rintro e w' ⟨v, ρ', rfl, g1, g2⟩
      have := relD_bool g2
      have hb' : b = c.testBit i := by simpa using h
      have hf := g1.frm
      exact ⟨by rw [this, hb'], hf.os, hf.tape, hf.output, hf.size, fun k hk _ => hf.same k hk (fun h => h)⟩
  · cases h

def memV (c : Nat) : Nat → List (Array Value)
  | 0 => []
  | n + 1 => memV c n ++ (match c.testBit n with | true => [#[.int .i64 (n : Int)]] | false => [])
theorem memV_pre (c : Nat) : ∀ {n m : Nat}, n ≤ m → ∃ t, memV c m = memV c n ++ t := by
  intro n m h
  induction h with
  | refl => exact ⟨[], by simp⟩
  | step _ ih =>
    obtain ⟨t, ht⟩ := ih
    exact ⟨t ++ _, by rw [memV, ht, List.append_assoc]⟩
theorem memV_bit {c i : Nat} (hi : i < 7) (hb : c.testBit i = true) : (memV c i).length < (memV c 7).length ∧ (memV c 7).getD (memV c i).length #[] = #[.int .i64 (i : Int)] := by
  obtain ⟨t, ht⟩ := memV_pre c (show i + 1 ≤ 7 by omega)
  have h1 : memV c (i + 1) = memV c i ++ [#[.int .i64 (i : Int)]] := by rw [memV, hb]
  rw [ht, h1]
  constructor
  · simp
  · simp [List.getD_eq_getElem?_getD]

def left142 : Value → Nat
  | .int _ i => (7 - i).toNat
  | _ => 0

set_option maxRecDepth 100000 in
set_option maxHeartbeats 1000000 in
theorem members_in (F : Fence) (n : Nat) (hF : Wide F) (hro : F.round = none) (hn : 1 ≤ n) (l c : Nat) (hc16 : c < 16) (p : Addr) (J : Nat → World → Prop) (Jx : Unit → World → Prop) (W : World) (hJ : AbidesFrom W.heap.size J)
    (hY : ∀ j W, j < (memV c 7).length → J j W → YieldAt F (n - 1) Tryz.prog l ((memV c 7).getD j #[]) W fun e W' =>
      (e = .returned (.bool true) ∧ J (j + 1) W' ∧ KpC p (.int .i64 (c : Int)) W W') ∨ (e = .returned (.bool false) ∧ Jx () W'))
    (hc : W.cell? p = some (.int .i64 (c : Int))) (h0 : J 0 W) :
    CallsIn F n Tryz.prog 142 #[.func (.yield l) #[] #[], .pointer (some p)] W fun e W' => (∃ v, e = .returned v) ∧ (J (memV c 7).length W' ∨ Jx () W') := by
  have h24 : ∀ (i : Nat), i < 7 → ∀ W, CallsIn F (n - 1) Tryz.prog 106 #[.int .i64 (c : Int), .int .i64 (i : Int)] W fun e w' => e = .returned (.bool (c.testBit i)) ∧ W.grownBy w' none :=
    fun i hi W => hF.calls (has_calls hc16 hi W)
  have hd := hF.depth
  have hfn := hF.fn
  refine callsIn_of_wp Tryz.func142 rfl (hF.fn 142) ?_ hro
  simp only [Tryz.ntmps142, List.size_toArray, List.length_cons, List.length_nil, Nat.reduceAdd, Nat.reduceSub, Array.replicate_succ, Array.replicate_zero, List.push_toArray, List.append_toArray, List.nil_append, List.cons_append]
  gi_wp2
  gi_loopw [4] (fun p' wr => ∃ (i : Nat), p' = .int .i64 (i : Int) ∧ i ≤ 7 ∧ J (memV c i).length wr ∧ wr.cell? p = some (.int .i64 (c : Int)))
    (fun p' wr => left142 p')
  case atStart =>
    exact ⟨0, rfl, by omega, h0, hc⟩
  case round =>
    obtain ⟨i, rfl, hi, hJs, hcs⟩ := hrel
    by_cases h7 : i < 7
    · have h7z : (i : Int) < 7 := by omega
      have hg24 := h24 i h7 wr
      have hJw : ∀ w', wr.grownBy w' none → J (memV c i).length w' ∧ w'.cell? p = some (.int .i64 (c : Int)) := fun w' hg =>
        ⟨hJ _ _ _ none hJs hg (fun r e => by cases e), (cell_congr (hg.block p.block (cell_lt hcs) (by simp))).trans hcs⟩
      gi_wp2_with (gi_at_call 106; refine hg24.mono ?_; rintro e w' ⟨rfl, hg⟩)
      · rename_i hb
        obtain ⟨hJ1, hc1⟩ := hJw w' hg
        obtain ⟨q1, q2⟩ := memV_bit (c := c) h7 ‹_›
        obtain ⟨fn, tmps, assign, body, hy, hR⟩ := hY _ w' q1 hJ1
        rw [q2] at hy
        replace hy : (Instr.yield l #[.int .i64 (i : Int)]).run Tryz.prog w' = .ok (.round l fn tmps assign body) w' := hy
        clear q1 q2
        rw [hy]
        gi_wp2
        refine hR.mono ?_
        rintro e W3 (⟨rfl, hJ3, hk3⟩ | ⟨rfl, hJx3⟩)
        · gi_wp2
          refine ⟨⟨i + 1, by simp, by omega, by simpa [memV, ‹c.testBit i = true›] using hJ3, hk3 hc1⟩, ?_⟩
          simp only [left142]; omega
        · gi_wp2
          refine bodyPost_ret (results_none rfl _ _ _) rfl ?_
          exact ⟨⟨_, rfl⟩, .inr hJx3⟩
      · rename_i hb
        obtain ⟨hJ1, hc1⟩ := hJw w' hg
        refine ⟨⟨i + 1, by simp, by omega, by simpa [memV, hb] using hJ1, hc1⟩, ?_⟩
        simp only [left142]; omega
    · have h7' : i = 7 := by omega
      subst h7'
      gi_wp2
      go_end0
      exact ⟨⟨_, rfl⟩, .inl hJs⟩

theorem memItems_len (c : Int) : ∀ n, (memItems c n).length = (memV c.toNat n).length
  | 0 => rfl
  | n + 1 => by
    simp only [memItems, memV, List.length_append, memItems_len c n]
    cases c.toNat.testBit n <;> rfl
theorem memItems_get (c : Int) : ∀ (n j : Nat), j < (memItems c n).length → ∃ i : Nat, (memItems c n).getD j [] = [.d (.int .i64 (i : Int))] ∧ (memV c.toNat n).getD j #[] = #[.int .i64 (i : Int)]
  | 0, j, h => by simp [memItems] at h
  | n + 1, j, h => by
    simp only [memItems, memV, getD_append, memItems_len]
    by_cases hj : j < (memV c.toNat n).length
    · simp only [hj, if_true]
      exact memItems_get c n j (by rw [memItems_len]; exact hj)
    · simp only [hj, if_false]
      simp only [memItems, List.length_append, memItems_len] at h
      cases hb : c.toNat.testBit n
      · rw [hb] at h; simp at h; omega
      · rw [hb] at h
        have e : j - (memV c.toNat n).length = 0 := by simp at h; omega
        rw [e]
        exact ⟨n, rfl, rfl⟩

theorem it142_ok {cap : List AV} {objs : List AObj} {xs : List (List AV)} (h : it142 cap objs = some xs) : ItX Tryz.prog 142 cap objs xs := by
  refine ⟨enters_of Tryz.func142 (by kernel_rfl) rfl, ?_⟩
  intro Fe n F ρ w lb hF hro hn hH hsz hrel
  unfold it142 at h
  split at h
  · rename_i id g
    split at h
    · rename_i c g' ho
      obtain ⟨pv, rfl⟩ : ∃ pv, lb = #[pv] := by
        have : lb.size = 1 := hsz
        refine ⟨lb[0], Array.ext (by simpa using this) fun i h1 h2 => ?_⟩
        have hi : i = 0 := by omega
        subst hi
        rfl
      have hp : RelV w (Wrt F ρ objs) ρ objs (.ptr id g 0 0) pv := hrel 0 (by simp)
      split at h
      · rename_i hd
        cases h
        simp only [Bool.and_eq_true, decide_eq_true_eq] at hd
        obtain ⟨⟨hg, hin⟩, hc0, hc16⟩ := hd
        cases hp with
        | ptr _ _ _ _ _ o ho' _ _ hq =>
          rw [ho] at ho'
          cases ho'
          obtain ⟨b, δ, hρ, rfl⟩ := hq hg
          obtain ⟨e1, vs, e2, e3⟩ := row_ok hH ho hρ (i := 0) (by simp [AObj.rows])
          have e4 := e2 0 (by simp [AObj.sz])
          have e5 := e3 0 (by simp [AObj.sz])
          have e6 : vs 0 = .int .i64 c := by
            have : RelV w (Wrt F ρ objs) ρ objs (.d (.int .i64 c)) (vs 0) := by simpa [AObj.rows] using e5
            exact relD_int this
          have hcn : ((c.toNat : Nat) : Int) = c := by omega
          have hcell : w.cell? ⟨b, δ, none⟩ = some (.int .i64 ((c.toNat : Nat) : Int)) := by
            rw [hcn, ← e6]
            simpa using e4
          refine ⟨memV c.toNat 7, fun a v => a = ⟨b, δ, none⟩ ∧ v = .int .i64 ((c.toNat : Nat) : Int), (memItems_len c 7).symm, ?_, ?_, ?_⟩
          · intro j hj
            obtain ⟨i, h1, h2⟩ := memItems_get c 7 j hj
            rw [h1, h2]
            refine ⟨rfl, fun q hq => ?_⟩
            have : q = 0 := by simpa using hq
            subst this
            exact .d _ _ (.int _ _)
          · rintro a v ⟨rfl, rfl⟩
            exact ⟨hcell, .inr ⟨id, _, δ, inL_iff.1 hin, ho, hρ⟩⟩
          · intro l J Jx W hW hJ _ hY h0
            have e7 : (⟨b, δ + (0 * AObj.sz (.var [.d (.int .i64 c)] g') + 0), none⟩ : Addr) = ⟨b, δ, none⟩ := by simp
            rw [e7]
            refine members_in Fe n hF hro (by omega) l c.toNat (by omega) ⟨b, δ, none⟩ J Jx W hJ (fun j W1 hj hJ1 => ?_) ((hW.cell (cell_lt hcell)).trans hcell) h0
            obtain ⟨fn, tmps, assign, body, h1, h2⟩ := hY j W1 hj hJ1
            refine ⟨fn, tmps, assign, body, h1, h2.mono ?_⟩
            rintro e W' (⟨h3, h4, h5⟩ | h3)
            · exact .inl ⟨h3, h4, h5 _ _ ⟨rfl, rfl⟩⟩
            · exact .inr h3
      · cases h
    · cases h
  · cases h

theorem itR_ok (f : Nat) (cap : List AV) (objs : List AObj) (xs : List (List AV)) (h : itR f cap objs = some xs) : ItX Tryz.prog f cap objs xs := by
  unfold itR at h
  split at h
  · exact it123_ok h
  · exact it142_ok h
  · cases h

theorem E_ok : E.Ok :=
  ⟨T_ok, mixed, tblQ_ok ⟨by kernel_rfl, by kernel_rfl⟩ (tbl0_ok _), fun g args r h => (by cases h), itR_ok, fun g fn h => ⟨fnR_ok g fn h, rfl⟩⟩

end Go.Proofs.YtjdjfchhbocncaaGreat
