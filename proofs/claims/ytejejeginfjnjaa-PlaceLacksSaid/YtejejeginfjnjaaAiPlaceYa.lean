/- Slices of texts: what loads of them tell; whether one is among some; whether two are one; a copy of one. -/
import Derived.Test.YtejejeginfjnjaaAiPlaceG
import Derived.Test.YtejejeginfjnjaaAiPlaceM
namespace Go.Proofs.Ytejejeginfjnjaa
open Go Go.AI
set_option linter.unusedVariables false

def strsD (l : List (List UInt8)) : List (List D) := l.map fun s => [.str s]
def isS : List D → Bool
  | [.str _] => true
  | _ => false
def sOf : List D → List UInt8
  | [.str s] => s
  | _ => []
theorem strsD_length (l : List (List UInt8)) : (strsD l).length = l.length := by simp [strsD]
theorem strsD_all (l : List (List UInt8)) : (strsD l).all isS = true := by simp [strsD, isS]
theorem strsD_sOf (l : List (List UInt8)) : (strsD l).map sOf = l := by simp [strsD, sOf, Function.comp_def]
theorem strsD_of {rows : List (List D)} (h : rows.all isS = true) : rows = strsD (rows.map sOf) := by
  induction rows with
  | nil => rfl
  | cons r l ih =>
    simp only [List.all_cons, Bool.and_eq_true] at h
    have e : r = [.str (sOf r)] := by
      have h1 := h.1
      unfold isS at h1
      split at h1
      · rfl
      · cases h1
    show r :: l = [.str (sOf r)] :: strsD (l.map sOf)
    rw [← e, ← ih h.2]

theorem ldS {l : List (List UInt8)} {n : Int} {sz : Nat} {k : List D → Prop} (hsz : sz = 1) (h : Side (0 ≤ n ∧ n < l.length)) (hk : k [.str (l.getD n.toNat [])]) :
    ∃ r, Side (0 ≤ n ∧ n < (strsD l).length ∧ (strsD l).getD n.toNat [] = r) ∧ (match decide (r.length = sz) with | true => k r | false => False) := by
  subst hsz
  have h1 := h.ok.1
  have h2 := h.ok.2
  have h3 : n.toNat < l.length := by omega
  exact ⟨[.str (l.getD n.toNat [])], ⟨h1, by rw [strsD_length]; exact h2, by simp [strsD, List.getD_eq_getElem?_getD, h3]⟩, hk⟩
theorem ldSo {P : Prop} {l : List (List UInt8)} {pos : Nat} {k : List D → Prop} (h : Side (P ∧ pos < l.length)) (hk : k [.str (l.getD pos [])]) :
    ∃ r, Side (P ∧ pos < (strsD l).length ∧ (strsD l).getD pos [] = r) ∧ k r := by
  have h2 := h.ok.2
  exact ⟨_, ⟨h.ok.1, by rw [strsD_length]; exact h2, by simp [strsD, List.getD_eq_getElem?_getD, h2]⟩, hk⟩

theorem take_succ' {α : Type} (d : α) {l : List α} {i : Nat} (h : i < l.length) : l.take (i + 1) = l.take i ++ [l.getD i d] := by
  rw [List.take_add_one, List.getD_eq_getElem?_getD]
  simp [h]
theorem getD_mem {α : Type} (d : α) {l : List α} {i : Nat} (h : i < l.length) : l.getD i d ∈ l := by
  simp [List.getD_eq_getElem?_getD, h]

/-! ### One among some -/

def S29 : List AV → Option AV
  | [.d (.sl rows), .d (.str s)] => if rows.all isS = true ∧ rows.length < 1000000000 then some (.d (.bool (decide (s ∈ rows.map sOf)))) else none
  | _ => none

def st29 (l : List (List UInt8)) (s : List UInt8) (i : Nat) : AS := ⟨[(0, .d (.sl (strsD l))), (1, .d (.str s)), (5, .d (.int .i64 i))], []⟩

theorem S29_ok : SpecOk Try.prog 29 S29 := by
  refine spec_of T_ok (tbl0_ok _) mixed Try.func29 (by kernel_rfl) rfl (by kernel_rfl) ?_
  intro args r h
  unfold S29 at h
  split at h
  · rename_i rows s
    split at h
    · rename_i hc
      obtain ⟨h1, h2⟩ := hc
      have h1 := strsD_of h1
      generalize rows.map sOf = l at h1 h
      subst h1
      cases h
      rw [strsD_length] at h2
      refine ⟨by simp [Try.f29], rfl, rfl, ?_⟩
      conv => whnf
      refine ⟨fun k σ => ∃ i, i ≤ l.length ∧ s ∉ l.take i ∧ k = l.length - i ∧ σ = st29 l s i, l.length, ⟨st29 l s 0, atL _ ⟨rfl, rfl, rfl, trivial⟩, 0, by omega, by simp, rfl, rfl⟩, ?_⟩
      rintro k σ ⟨i, hi, hn, rfl, rfl⟩
      repeat' (first | ((conv => whnf); intro _ _) | ((conv => whnf); refine And.intro ?_ ?_ <;> intro h <;> cases h) | ((conv => whnf); refine ldS rfl ?_ ?_) | ((conv => whnf); refine And.intro (?_ : Side _) ?_) | fail)
      all_goals (conv => whnf)
      · rename_i ha
        have ha := of_decide_eq_true ha.symm
        rw [strsD_length] at ha
        exact ⟨Int.natCast_nonneg _, ha⟩
      · rename_i ha hb
        have ha := of_decide_eq_true ha.symm
        rw [strsD_length] at ha
        have hb : l.getD i [] = s := eq_of_beq hb.symm
        refine congrArg (fun z => AV.d (D.bool z)) (Eq.symm (decide_eq_true ?_))
        rw [← hb]
        exact getD_mem _ (by omega)
      · rename_i ha hb
        have ha := of_decide_eq_true ha.symm
        rw [strsD_length] at ha
        have hb : ¬ l.getD i [] = s := by
          intro h
          have hb : (l.getD i [] == s) = false := hb.symm
          rw [h] at hb
          simp at hb
        refine ⟨l.length - (i + 1), st29 l s (i + 1), by omega, atL _ ⟨rfl, rfl, congrArg (fun z => AV.d (D.int .i64 z)) (wi (m := i + 1) (by omega) (by omega)), trivial⟩, i + 1, by omega, ?_, rfl, rfl⟩
        rw [take_succ' [] (by omega), List.mem_append]
        rintro (h | h)
        · exact hn h
        · exact hb (List.mem_singleton.1 h).symm
      · rename_i ha
        have ha := of_decide_eq_false ha.symm
        rw [strsD_length] at ha
        have : i = l.length := by omega
        subst this
        rw [List.take_length] at hn
        exact congrArg (fun z => AV.d (D.bool z)) (Eq.symm (decide_eq_false hn))
    · cases h
  · cases h

/-! ### Two lists are one -/

def S17 : List AV → Option AV
  | [.d (.sl a), .d (.sl b)] => if (a.all isS = true ∧ b.all isS = true) ∧ a.length < 1000000000 then some (.d (.bool (decide (a.map sOf = b.map sOf)))) else none
  | _ => none

def st17 (a b : List (List UInt8)) (i : Nat) : AS := ⟨[(0, .d (.sl (strsD a))), (1, .d (.sl (strsD b))), (12, .d (.int .i64 a.length)), (13, .d (.int .i64 i))], []⟩

theorem S17_ok : SpecOk Try.prog 17 S17 := by
  refine spec_of T_ok (tbl0_ok _) mixed Try.func17 (by kernel_rfl) rfl (by kernel_rfl) ?_
  intro args r h
  unfold S17 at h
  split at h
  · rename_i ra rb
    split at h
    · rename_i hc
      obtain ⟨⟨h1, h2⟩, h3⟩ := hc
      have h1 := strsD_of h1
      have h2 := strsD_of h2
      generalize ra.map sOf = a at h1 h
      generalize rb.map sOf = b at h2 h
      subst h1 h2
      cases h
      rw [strsD_length] at h3
      refine ⟨by simp [Try.f17], rfl, rfl, ?_⟩
      repeat' (first | ((conv => whnf); intro _ _) | ((conv => whnf); refine And.intro ?_ ?_ <;> intro h <;> cases h) | ((conv => whnf); refine And.intro (?_ : Side _) ?_) | fail)
      all_goals (conv => whnf)
      · rename_i ha
        have ha := true_eq_not_iff'.1 ha
        refine congrArg (fun z => AV.d (D.bool z)) (Eq.symm (decide_eq_false fun e => ?_))
        subst e
        simp at ha
      · rename_i ha
        have ha := eq_of_beq (false_eq_not_iff'.1 ha)
        have hl : a.length = b.length := by rw [strsD_length, strsD_length] at ha; omega
        clear ha
        refine ⟨fun k σ => ∃ i, i ≤ a.length ∧ a.take i = b.take i ∧ k = a.length - i ∧ σ = st17 a b i, a.length, ⟨st17 a b 0, atL _ ⟨rfl, rfl, congrArg (fun z => AV.d (D.int .i64 z)) (by rw [strsD_length]), rfl, trivial⟩, 0, by omega, rfl, rfl, rfl⟩, ?_⟩
        rintro k σ ⟨i, hi, ht, rfl, rfl⟩
        repeat' (first | ((conv => whnf); intro _ _) | ((conv => whnf); refine And.intro ?_ ?_ <;> intro h <;> cases h) | ((conv => whnf); refine ldS rfl ?_ ?_) | ((conv => whnf); refine And.intro (?_ : Side _) ?_) | fail)
        all_goals (conv => whnf)
        · have ha := of_decide_eq_true (Eq.symm (show true = decide _ from ‹_›))
          exact ⟨Int.natCast_nonneg _, ha⟩
        · have ha := of_decide_eq_true (Eq.symm (show true = decide _ from ‹_›))
          exact ⟨Int.natCast_nonneg _, by omega⟩
        · rename_i ha hb
          have ha := of_decide_eq_true ha.symm
          have hb := true_eq_not_iff'.1 hb
          refine congrArg (fun z => AV.d (D.bool z)) (Eq.symm (decide_eq_false fun e => ?_))
          subst e
          simp at hb
        · rename_i ha hb
          have ha := of_decide_eq_true ha.symm
          have hb : a.getD i [] = b.getD i [] := eq_of_beq (false_eq_not_iff'.1 hb)
          refine ⟨a.length - (i + 1), st17 a b (i + 1), by omega, atL _ ⟨rfl, rfl, rfl, congrArg (fun z => AV.d (D.int .i64 z)) (wi (m := i + 1) (by omega) (by omega)), trivial⟩, i + 1, by omega, ?_, rfl, rfl⟩
          rw [take_succ' [] (show i < a.length by omega), take_succ' [] (show i < b.length by omega), ht, hb]
        · rename_i ha
          have ha := of_decide_eq_false ha.symm
          have hia : i = a.length := by omega
          refine congrArg (fun z => AV.d (D.bool z)) (Eq.symm (decide_eq_true ?_))
          rw [hia, List.take_length, hl, List.take_length] at ht
          exact ht
    · cases h
  · cases h

/-! ### A copy -/

theorem Weak.newEmpty {t : Nat} : Weak ⟨[(t, .nils)], []⟩ ⟨[(t, .win 0 0 0 2)], [.arr [] 1 2]⟩ := by
  intro F ρ a w h
  have h1 := new_none h 1
  have h2 := regen_none h1 (id := 0) (o := .arr [] 1 1) rfl (n := 1) (g := 2) (by show 1 < 2; omega)
  refine ⟨upd (upd ρ 0 none) 0 none, h2.nt, h2.ds, fun s => ?_, h2.hp⟩
  have h3 := h.tm s
  show RelV w _ _ _ (AI.look [(t, .win 0 0 0 2)] s) _
  simp only [AS.get, AI.look] at h3 ⊢
  by_cases e : t = s
  · rw [if_pos e] at h3 ⊢
    generalize a.tmps.getD s undef = v at h3
    cases h3
    exact .win 0 0 0 2 _ (.arr [] 1 2) rfl (Nat.le_refl _) ⟨_, _, rfl⟩ fun _ => ⟨Nat.le_refl _, _, 0, rfl, ⟨Nat.le_refl _, .inr (Nat.le_refl _)⟩, .inl rfl⟩
  · rw [if_neg e]
    exact .undef _

theorem cond_ub {P : Program} {nt : Nat} {c : Operand} {x y : Code} {Q : Exit → AS → Prop} {σ : AS} (hc : σ.eval c = .ub) (hx : RW P nt x Q σ) (hy : RW P nt y Q σ) : RW P nt (.cond c x y) Q σ :=
  ⟨fun F ρ a w hF hr => by
    have hv := eval_ok hr c
    rw [hc] at hv
    obtain ⟨b, hb⟩ := relV_ub hv
    refine wpIn_cond hb ?_
    cases b
    · exact hy.ok F ρ a w hF hr
    · exact hx.ok F ρ a w hF hr⟩

theorem enters' {f : Nat} {fn : Func} {c : Code} (hf : Try.prog.funcs[f]? = some fn) (hname : (fn.name == "runtime.NumGoroutine") = false) (hb : fn.body = some c) (cargs : Array Value) (w : World) :
    (callFunc f cargs).run Try.prog w = .ok (.enter f cargs) w := by
  have hn : fn.name ≠ "runtime.NumGoroutine" := by simpa using hname
  simp [callFunc, hf, hn, hb, mark]

def S16 : List AV → List AObj → Option (AV × List AObj)
  | [.d (.sl rows)], [] => if rows.all isS = true ∧ rows.length < 1000000 then some (.win 0 0 rows.length 2, [.arr rows 1 2]) else none
  | _, _ => none

theorem ap9W {off len g : Nat} {rs R : List (List D)} {M : Nat} (h1 : off + len = rs.length) (hR : R.all isS = true) (hM : R.length ≤ M) (hg : g ≠ 0) (hl : len + M ≤ 8000000) :
    Side (off + len = rs.length ∧ (∀ r ∈ R, r.length = ty9.size) ∧ 0 < ty9.size ∧ 0 < ty9.bytes ∧ (g = g ∧ g ≠ 0) ∧ 1 = ty9.size ∧ (len + R.length) * ty9.bytes ≤ 140737488355328) := by
  have hR := strsD_of hR
  refine ⟨h1, fun r hr => ?_, Nat.le_of_ble_eq_true rfl, Nat.le_of_ble_eq_true rfl, ⟨rfl, hg⟩, rfl, by show (len + R.length) * 16 ≤ _; omega⟩
  rw [hR] at hr
  obtain ⟨s, _, rfl⟩ := List.mem_map.1 hr
  rfl
theorem ap9N {R : List (List D)} {s : List UInt8} (hR : R = [[.str s]]) : Side ((∀ r ∈ R, r.length = ty9.size) ∧ 0 < ty9.size ∧ 0 < ty9.bytes ∧ R.length * ty9.bytes ≤ 140737488355328) := by
  subst hR
  exact ⟨fun r hr => by rw [List.mem_singleton] at hr; subst hr; rfl, Nat.le_of_ble_eq_true rfl, Nat.le_of_ble_eq_true rfl, Nat.le_of_ble_eq_true rfl⟩

noncomputable def a16 : Code := match Try.f16.body with | some (.seq a _) => a | _ => .skip
noncomputable def b16 : Code := match Try.f16.body with | some (.seq _ (.seq (.seq a _) _)) => a | _ => .skip
noncomputable def x16 : Code := match Try.f16.body with | some (.seq _ (.seq (.seq _ (.cond _ (.seq a _) _)) _)) => a | _ => .skip
noncomputable def c16 : Code := match Try.f16.body with | some (.seq _ (.seq _ (.seq a _))) => a | _ => .skip
theorem body16 : Try.f16.body = some (.seq a16 (.seq (.seq b16 (.cond (.tmp 4) (.seq x16 .ret) .skip)) (.seq c16 .ret))) := rfl

theorem S16_ok : SpecO Try.prog 16 S16 := by
  have htb := tbl0_ok Try.prog
  intro args objs r objs' h
  unfold S16 at h
  split at h
  · rename_i rows
    split at h
    · rename_i hc
      obtain ⟨h1, h2⟩ := hc
      cases h
      refine ⟨enters' Try.func16 (by kernel_rfl) rfl, ?_⟩
      cases rows with
      | nil =>
        refine fnO_of' T_ok Try.func16 body16 (Nat.le_of_ble_eq_true rfl) ?_
        refine RW.seq (fun σ => σ.get 0 = .d (.sl []) ∧ σ.objs = []) (RW.of T_ok htb mixed (by kernel_rfl) (by (conv => whnf); exact ⟨rfl, rfl⟩)) fun σ0 h0 => ?_
        obtain ⟨tm, ob⟩ := σ0
        obtain ⟨h0, h3⟩ := h0
        have h3 : ob = [] := h3
        subst h3
        refine RW.weak (Weak.at [(0, .d (.sl []))] fun p hp => by rw [List.mem_singleton] at hp; subst hp; exact h0) ?_
        refine RW.seq (fun σ => σ.get 0 = .d (.sl []) ∧ σ.objs = []) (RW.seq (fun σ => (σ.get 0 = .d (.sl []) ∧ σ.get 4 = .ub) ∧ σ.objs = []) (RW.of T_ok htb mixed (by kernel_rfl) (by (conv => whnf); exact ⟨⟨rfl, rfl⟩, rfl⟩)) fun σ1 h1 => ?_) fun σ2 h2 => ?_
        · obtain ⟨tm, ob⟩ := σ1
          obtain ⟨⟨h0, h1⟩, h3⟩ := h1
          have h3 : ob = [] := h3
          subst h3
          refine RW.weak (Weak.at [(0, .d (.sl [])), (4, .ub)] fun p hp => by
            simp only [List.mem_cons, List.not_mem_nil, or_false] at hp
            rcases hp with rfl | rfl <;> assumption) ?_
          refine cond_ub rfl ?_ (RW.of T_ok htb mixed (by kernel_rfl) (by (conv => whnf); exact ⟨rfl, rfl⟩))
          refine RW.seq (fun σ => σ.get 2 = .nils ∧ σ.objs = []) (RW.of T_ok htb mixed (by kernel_rfl) (by (conv => whnf); exact ⟨rfl, rfl⟩)) fun σ2 h2 => ?_
          obtain ⟨tm, ob⟩ := σ2
          obtain ⟨h0, h3⟩ := h2
          have h3 : ob = [] := h3
          subst h3
          refine RW.weak (Weak.at [(2, .nils)] fun p hp => by rw [List.mem_singleton] at hp; subst hp; exact h0) ?_
          refine RW.weak Weak.newEmpty (RW.of T_ok htb mixed (by kernel_rfl) ?_)
          conv => whnf
          exact ⟨rfl, rfl⟩
        · obtain ⟨tm, ob⟩ := σ2
          obtain ⟨h0, h3⟩ := h2
          have h3 : ob = [] := h3
          subst h3
          refine RW.weak (Weak.at [(0, .d (.sl []))] fun p hp => by rw [List.mem_singleton] at hp; subst hp; exact h0) (RW.of T_ok htb mixed (by kernel_rfl) ?_)
          repeat' (first | ((conv => whnf); intro _ _) | ((conv => whnf); refine Or.inl ?_) | ((conv => whnf); refine And.intro (?_ : Side _) ?_) | fail)
          all_goals (conv => whnf)
          · exact ap9W (M := 0) rfl rfl (Nat.le_refl _) (by decide) (by decide)
          · exact ⟨rfl, rfl⟩
      | cons x l =>
        refine fnO_of T_ok htb mixed Try.func16 rfl (by kernel_rfl) (by simp [Try.f16]) ?_
        repeat' (first | ((conv => whnf); intro _ _) | ((conv => whnf); refine And.intro ?_ ?_ <;> intro h <;> cases h) | ((conv => whnf); refine Or.inl ?_) | ((conv => whnf); refine And.intro (?_ : Side _) ?_) | fail)
        all_goals (conv => whnf)
        · exact absurd ‹_› (by decide)
        · exact ap9W (M := 1000000) rfl h1 (by omega) (by decide) (by decide)
        · exact ⟨congrArg (fun z => AV.win 0 0 z 2) (Nat.zero_add _), rfl⟩
    · cases h
  · cases h

end Go.Proofs.Ytejejeginfjnjaa
