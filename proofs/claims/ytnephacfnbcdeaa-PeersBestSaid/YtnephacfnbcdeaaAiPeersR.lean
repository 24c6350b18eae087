/- What more than half have more than half have, and nothing greater: PeersBest. -/
import Derived.Test.YtnephacfnbcdeaaAiPeersO
namespace Go.Proofs.Ytnephacfnbcdeaa
open Go Go.AI Go.Shelf
set_option linter.unusedVariables false

theorem or_nat {H x : Nat} (hH : H < 128) (hx : x < 7) : IntKind.i64.wrap ((BitVec.ofInt 64 (H : Int) ||| BitVec.ofInt 64 (IntKind.i64.wrap (1 * 2 ^ (min x 64)))).toNat : Nat) = ((H ||| 2 ^ x : Nat) : Int) := by
  revert x
  revert H
  decide +kernel

theorem or_lt {H x : Nat} (hH : H < 128) (hx : x < 7) : H ||| 2 ^ x < 128 :=
  Nat.or_lt_two_pow (n := 7) hH (Nat.lt_of_lt_of_le (Nat.pow_lt_pow_right (by omega) hx) (Nat.le_refl _))

theorem countP_upTo (a : Nat) (p : Nat → Bool) : ∀ i, (upTo a i).countP p = ((List.range i).map fun j => (a.testBit j && p j).toNat).sum := by
  intro i
  induction i with
  | zero => rfl
  | succ i ih =>
    rw [List.range_succ, List.map_append, List.sum_append, ← ih]
    simp only [upTo, List.map_cons, List.map_nil, List.sum_cons, List.sum_nil]
    cases ha : a.testBit i
    · simp
    · simp only [if_true, List.countP_append, List.countP_cons, List.countP_nil, Bool.true_and]
      cases p i <;> simp

theorem mem_upTo (a : Nat) : ∀ {i j : Nat}, j ∈ upTo a i ↔ j < i ∧ a.testBit j = true := by
  intro i
  induction i with
  | zero => intro j; simp [upTo]
  | succ i ih =>
    intro j
    simp only [upTo]
    split
    · rename_i h
      rw [List.mem_append, ih, List.mem_singleton]
      constructor
      · rintro (⟨h1, h2⟩ | rfl)
        · exact ⟨by omega, h2⟩
        · exact ⟨by omega, h⟩
      · rintro ⟨h1, h2⟩
        by_cases e : j = i
        · exact .inr e
        · exact .inl ⟨by omega, h2⟩
    · rename_i h
      rw [ih]
      constructor
      · rintro ⟨h1, h2⟩; exact ⟨by omega, h2⟩
      · rintro ⟨h1, h2⟩
        refine ⟨?_, h2⟩
        by_cases e : j = i
        · subst e; exact absurd h2 h
        · omega

/-- A set of those of a list that pass. -/
def isSet (H : Nat) (l : List Nat) (p : Nat → Bool) : Prop := H < 128 ∧ ∀ j, j < 7 → H.testBit j = (decide (j ∈ l) && p j)

theorem isSet_nil (p : Nat → Bool) : isSet 0 [] p := ⟨by omega, fun j _ => by simp⟩
theorem isSet_yes {H : Nat} {l : List Nat} {p : Nat → Bool} {x : Nat} (h : isSet H l p) (hx : x < 7) (hp : p x = true) : isSet (H ||| 2 ^ x) (l ++ [x]) p := by
  refine ⟨or_lt h.1 hx, fun j hj => ?_⟩
  rw [Nat.testBit_or, h.2 j hj, Nat.testBit_two_pow]
  by_cases e : x = j
  · subst e; simp [hp]
  · have : ¬ j = x := fun e' => e e'.symm
    simp [e, this]
theorem isSet_no {H : Nat} {l : List Nat} {p : Nat → Bool} {x : Nat} (h : isSet H l p) (hp : p x = false) : isSet H (l ++ [x]) p := by
  refine ⟨h.1, fun j hj => ?_⟩
  rw [h.2 j hj]
  by_cases e : j = x
  · subst e; simp [hp]
  · simp [e]

theorem pop_set {c : Int} {H : Nat} {p : Nat → Bool} (h : isSet H (upTo (msk c) 7) p) : pop (msk c &&& msk (H : Int)) = (upTo (msk c) 7).countP p := by
  have hm : msk (H : Int) = H := by have := h.1; unfold msk; omega
  rw [hm, countP_upTo]
  have key : ∀ j, j < 7 → ((msk c &&& H).testBit j).toNat = ((msk c).testBit j && p j).toNat := by
    intro j hj
    rw [Nat.testBit_and, h.2 j hj]
    cases hb : (msk c).testBit j
    · simp
    · have : j ∈ upTo (msk c) 7 := (mem_upTo _).2 ⟨hj, hb⟩
      simp [this]
  simp only [pop, key 0 (by omega), key 1 (by omega), key 2 (by omega), key 3 (by omega), key 4 (by omega), key 5 (by omega), key 6 (by omega), show List.range 7 = [0, 1, 2, 3, 4, 5, 6] from rfl, List.map_cons, List.map_nil, List.sum_cons, List.sum_nil]
  omega

theorem best_law {c : Int} {ms : List Int} {H M : Nat} (hc : withinB c 1 127 = true) (h1 : isSet H (upTo (msk c) 7) fun x => decide (matchI c ms ≤ atM ms x)) (h2 : isSet M (upTo (msk c) 7) fun x => decide (matchI c ms < atM ms x)) :
    quoB c (H : Int) = true ∧ quoB c (M : Int) = false := by
  have hne : upTo (msk c) 7 ≠ [] := by
    intro e
    have hp := upTo_pop (msk c)
    rw [e] at hp
    have hcc : 1 ≤ c ∧ c ≤ 127 := by simpa [withinB] using hc
    have hm : msk c = c.toNat := by unfold msk; omega
    have : ∀ m : Nat, m < 128 → 1 ≤ m → pop m ≠ 0 := by decide +kernel
    exact this (msk c) (msk_lt c) (by omega) hp.symm
  have hlen := upTo_pop (msk c)
  unfold quoB
  rw [pop_set h1, pop_set h2, ← hlen]
  generalize hL : upTo (msk c) 7 = L at *
  have hS : ∃ S, S = sortBy cmpD (L.map (atM ms)) := ⟨_, rfl⟩
  obtain ⟨S, hS⟩ := hS
  have hperm := sort_perm (L.map (atM ms))
  have hsorted := sort_desc (L.map (atM ms))
  rw [← hS] at hperm hsorted
  have hSl : S.length = L.length := by rw [hperm.length_eq, List.length_map]
  have hpos : 0 < L.length := List.length_pos_iff.2 hne
  have hk : L.length / 2 < S.length := by omega
  have hbest : matchI c ms = S[L.length / 2] := by
    unfold matchI
    rw [hL, if_neg hne, ← hS]
    simp [List.getD_eq_getElem?_getD, hk]
  have c1 : L.countP (fun x => decide (matchI c ms ≤ atM ms x)) = S.countP fun x => decide (S[L.length / 2] ≤ x) := by
    rw [hperm.countP_eq, List.countP_map, hbest]; rfl
  have c2 : L.countP (fun x => decide (matchI c ms < atM ms x)) = S.countP fun x => decide (S[L.length / 2] + 1 ≤ x) := by
    rw [hperm.countP_eq, List.countP_map, hbest]; rfl
  rw [c1, c2]
  have g1 := count_ge hsorted hk
  have g2 := count_gt hsorted hk (v := S[L.length / 2] + 1) (by omega)
  constructor
  · simp only [Bool.and_eq_true, decide_eq_true_eq]
    omega
  · simp only [Bool.and_eq_false_iff, decide_eq_false_iff_not]
    omega

def S9 : List AV → Option AV
  | [.d (.int .i64 c), .agg [.d (.int .i64 a0), .d (.int .i64 a1), .d (.int .i64 a2), .d (.int .i64 a3), .d (.int .i64 a4), .d (.int .i64 a5), .d (.int .i64 a6)]] => some (.d (.bool true))
  | _ => none

def st9 (c best : Int) (L : List Nat) (a0 a1 a2 a3 a4 a5 a6 : Int) (H M i : Nat) : AS :=
  ⟨[(0, .d (.int .i64 c)), (3, .ptr 0 0 0 0), (5, .d (.int .i64 best)), (6, .d (.int .i64 H)), (7, .d (.int .i64 M)), (18, .d (.sl (rowsN L))), (19, .d (.int .i64 (rowsN L).length)), (20, .d (.int .i64 i))], [.var (cellsM a0 a1 a2 a3 a4 a5 a6) 0]⟩

theorem at8 {σ : AS} {i j k l m n o p : Nat} {a b c d e f g h : AV} (h1 : σ.get i = a) (h2 : σ.get j = b) (h3 : σ.get k = c) (h4 : σ.get l = d) (h5 : σ.get m = e) (h6 : σ.get n = f) (h7 : σ.get o = g) (h8 : σ.get p = h) :
    Weak σ ⟨[(i, a), (j, b), (k, c), (l, d), (m, e), (n, f), (o, g), (p, h)], σ.objs⟩ :=
  Weak.at _ fun q hq => by
    simp only [List.mem_cons, List.not_mem_nil, or_false] at hq
    rcases hq with rfl | rfl | rfl | rfl | rfl | rfl | rfl | rfl
    · exact h1
    · exact h2
    · exact h3
    · exact h4
    · exact h5
    · exact h6
    · exact h7
    · exact h8

set_option maxHeartbeats 4000000 in
theorem S9_ok : SpecOk Try.prog 9 S9 := by
  refine spec_of T_ok (tblAdd_ok S22_ok (tblAdd_ok S19_ok (tblAdd_ok S18_ok (tblAdd_ok S25_ok (tblAdd_ok S23_ok (tblS_ok (t := 3) (n := 7) (tbl0_ok _))))))) mixed Try.func9 (by kernel_rfl) rfl (by kernel_rfl) ?_
  intro args r h
  unfold S9 at h
  split at h
  · rename_i c a0 a1 a2 a3 a4 a5 a6
    cases h
    refine ⟨by simp [Try.f9], rfl, rfl, ?_⟩
    repeat' (first | ((conv => whnf); intro _ _) | ((conv => whnf); refine And.intro ?_ ?_ <;> intro h <;> cases h) | ((conv => whnf); refine And.intro (?_ : Side _) ?_) | fail)
    all_goals (conv => whnf)
    · rename_i h1 h2; rw [h2]
    · have hle := upTo_length (msk c) 7
      refine ⟨fun k σ => ∃ i H M, i ≤ (upTo (msk c) 7).length ∧ k = (upTo (msk c) 7).length - i ∧ σ = st9 c (matchI c [a0, a1, a2, a3, a4, a5, a6]) (upTo (msk c) 7) a0 a1 a2 a3 a4 a5 a6 H M i ∧
          isSet H ((upTo (msk c) 7).take i) (fun x => decide (matchI c [a0, a1, a2, a3, a4, a5, a6] ≤ atM [a0, a1, a2, a3, a4, a5, a6] x)) ∧ isSet M ((upTo (msk c) 7).take i) (fun x => decide (matchI c [a0, a1, a2, a3, a4, a5, a6] < atM [a0, a1, a2, a3, a4, a5, a6] x)),
        (upTo (msk c) 7).length, ⟨_, at8 (i := 0) (j := 3) (k := 5) (l := 6) (m := 7) (n := 18) (o := 19) (p := 20) rfl rfl rfl rfl rfl rfl rfl rfl, 0, 0, 0, by omega, by omega, rfl, isSet_nil _, isSet_nil _⟩, ?_⟩
      rintro k σ ⟨i, H, M, hi, rfl, rfl, hH, hM⟩
      by_cases hil : i < (upTo (msk c) 7).length
      · obtain ⟨x, hx⟩ : ∃ v, (upTo (msk c) 7).getD i 0 = v := ⟨_, rfl⟩
        have hr := row_at hil hx
        have hx7 : x < 7 := by
          rw [← hx]
          have e : (upTo (msk c) 7).getD i 0 = (upTo (msk c) 7)[i] := by simp [List.getD_eq_getElem?_getD, hil]
          rw [e]
          exact upTo_lt (List.getElem_mem hil)
        have hm := mat a0 a1 a2 a3 a4 a5 a6 hx7
        have htk : (upTo (msk c) 7).take (i + 1) = (upTo (msk c) 7).take i ++ [x] := by
          rw [List.take_succ_eq_append_getElem hil]
          have e : (upTo (msk c) 7).getD i 0 = (upTo (msk c) 7)[i] := by simp [List.getD_eq_getElem?_getD, hil]
          rw [← e, hx]
        repeat' (first | ((conv => whnf); intro _ _) | ((conv => whnf); refine And.intro ?_ ?_ <;> intro h <;> cases h) | ((conv => whnf); refine ⟨_, And.intro hr ?_⟩) | ((conv => whnf); refine ⟨_, And.intro hm ?_⟩) | ((conv => whnf); refine And.intro (?_ : Side _) ?_) | fail)
        all_goals (conv => whnf)
        all_goals first
          | exact ⟨by omega, by omega⟩
          | (exfalso; have h0 := of_decide_eq_true (Eq.symm ‹true = decide ((x : Int) < 0)›); omega)
          | (exfalso; have h0 := of_decide_eq_true (Eq.symm ‹true = decide (6 < (x : Int))›); omega)
          | (exfalso; have h0 := of_decide_eq_false (Eq.symm ‹false = decide ((i : Int) < ((rowsN (upTo (msk c) 7)).length : Nat))›); rw [rowsN, List.length_map] at h0; omega)
          | exact ⟨(upTo (msk c) 7).length - (i + 1), _, by omega, at8 (i := 0) (j := 3) (k := 5) (l := 6) (m := 7) (n := 18) (o := 19) (p := 20) rfl rfl rfl (congrArg (fun z => AV.d (D.int .i64 z)) (or_nat hH.1 hx7)) (congrArg (fun z => AV.d (D.int .i64 z)) (or_nat hM.1 hx7)) rfl rfl (congrArg (fun z => AV.d (D.int .i64 z)) (nats_i64 (by omega))), i + 1, H ||| 2 ^ x, M ||| 2 ^ x, by omega, rfl, rfl,
              by rw [htk]; exact isSet_yes hH hx7 (Eq.symm ‹true = decide (matchI c [a0, a1, a2, a3, a4, a5, a6] ≤ atM [a0, a1, a2, a3, a4, a5, a6] x)›), by rw [htk]; exact isSet_yes hM hx7 (Eq.symm ‹true = decide (matchI c [a0, a1, a2, a3, a4, a5, a6] < atM [a0, a1, a2, a3, a4, a5, a6] x)›)⟩
          | exact ⟨(upTo (msk c) 7).length - (i + 1), _, by omega, at8 (i := 0) (j := 3) (k := 5) (l := 6) (m := 7) (n := 18) (o := 19) (p := 20) rfl rfl rfl (congrArg (fun z => AV.d (D.int .i64 z)) (or_nat hH.1 hx7)) rfl rfl rfl (congrArg (fun z => AV.d (D.int .i64 z)) (nats_i64 (by omega))), i + 1, H ||| 2 ^ x, M, by omega, rfl, rfl,
              by rw [htk]; exact isSet_yes hH hx7 (Eq.symm ‹true = decide (matchI c [a0, a1, a2, a3, a4, a5, a6] ≤ atM [a0, a1, a2, a3, a4, a5, a6] x)›), by rw [htk]; exact isSet_no hM (Eq.symm ‹false = decide (matchI c [a0, a1, a2, a3, a4, a5, a6] < atM [a0, a1, a2, a3, a4, a5, a6] x)›)⟩
          | exact ⟨(upTo (msk c) 7).length - (i + 1), _, by omega, at8 (i := 0) (j := 3) (k := 5) (l := 6) (m := 7) (n := 18) (o := 19) (p := 20) rfl rfl rfl rfl (congrArg (fun z => AV.d (D.int .i64 z)) (or_nat hM.1 hx7)) rfl rfl (congrArg (fun z => AV.d (D.int .i64 z)) (nats_i64 (by omega))), i + 1, H, M ||| 2 ^ x, by omega, rfl, rfl,
              by rw [htk]; exact isSet_no hH (Eq.symm ‹false = decide (matchI c [a0, a1, a2, a3, a4, a5, a6] ≤ atM [a0, a1, a2, a3, a4, a5, a6] x)›), by rw [htk]; exact isSet_yes hM hx7 (Eq.symm ‹true = decide (matchI c [a0, a1, a2, a3, a4, a5, a6] < atM [a0, a1, a2, a3, a4, a5, a6] x)›)⟩
          | exact ⟨(upTo (msk c) 7).length - (i + 1), _, by omega, at8 (i := 0) (j := 3) (k := 5) (l := 6) (m := 7) (n := 18) (o := 19) (p := 20) rfl rfl rfl rfl rfl rfl rfl (congrArg (fun z => AV.d (D.int .i64 z)) (nats_i64 (by omega))), i + 1, H, M, by omega, rfl, rfl,
              by rw [htk]; exact isSet_no hH (Eq.symm ‹false = decide (matchI c [a0, a1, a2, a3, a4, a5, a6] ≤ atM [a0, a1, a2, a3, a4, a5, a6] x)›), by rw [htk]; exact isSet_no hM (Eq.symm ‹false = decide (matchI c [a0, a1, a2, a3, a4, a5, a6] < atM [a0, a1, a2, a3, a4, a5, a6] x)›)⟩
      · have hw : withinB c 1 127 = true := by
          cases hb : withinB c 1 127 with
          | true => rfl
          | false =>
            exfalso
            have h0 := ‹false = !(errOf (withinB c 1 127) == 0)›
            rw [hb] at h0
            exact absurd h0 (by decide)
        have hie : i = (upTo (msk c) 7).length := by omega
        rw [hie, List.take_length] at hH hM
        have hb := best_law hw hH hM
        repeat' (first | ((conv => whnf); intro _ _) | ((conv => whnf); refine And.intro ?_ ?_ <;> intro h <;> cases h) | ((conv => whnf); refine And.intro (?_ : Side _) ?_) | fail)
        all_goals (conv => whnf)
        all_goals first
          | (rename_i h; rw [h]; done)
          | (exfalso; have h0 := of_decide_eq_true (Eq.symm ‹true = decide ((i : Int) < ((rowsN (upTo (msk c) 7)).length : Nat))›); rw [rowsN, List.length_map] at h0; omega)
          | (exfalso; rename_i h1 h2; rw [h1, hb.2] at h2; cases h2)
          | (exfalso; rename_i h1; rw [hb.1] at h1; cases h1)
  · cases h
end Go.Proofs.Ytnephacfnbcdeaa
