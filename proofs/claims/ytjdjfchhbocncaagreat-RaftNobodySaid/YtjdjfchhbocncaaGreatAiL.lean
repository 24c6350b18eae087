/- Contracts of functions that are given objects, out of walks of their texts. -/
import Derived.Test.YtjdjfchhbocncaaGreatAiI
namespace Go.AI
set_option linter.unusedVariables false

def prefB : Nat → Nat → List Nat → Bool
  | _, 0, _ => true
  | i, k + 1, x :: l => decide (x = i) && prefB (i + 1) k l
  | _, _ + 1, [] => false

theorem prefB_get : ∀ {k i : Nat} {l : List Nat}, prefB i k l = true → ∀ j, j < k → l[j]? = some (i + j) := by
  intro k
  induction k with
  | zero => intro i l _ j hj; exact absurd hj (Nat.not_lt_zero j)
  | succ k ih =>
    intro i l h j hj
    cases l with
    | nil => simp [prefB] at h
    | cons x l =>
      simp only [prefB, Bool.and_eq_true, decide_eq_true_eq] at h
      cases j with
      | zero => simp [h.1]
      | succ j => simpa [Nat.add_assoc, Nat.add_comm 1 j] using ih h.2 j (by omega)

/-- The objects that stay: those that were given, and those that the result comes to. -/
def keepL (k : Nat) (v : AV) (ob : List AObj) : List Nat := reachN ob ob.length (addL (List.range k) v.ids)

def finO (k : Nat) (v : AV) (ob : List AObj) (r : AV) (ob' : List AObj) : Prop :=
  match locOk ob (keepL k v ob) && v.allId (inL (keepL k v ob)) && prefB 0 k (keepL k v ob) with
  | true => v.ren (idx (keepL k v ob)) = r ∧ locO ob (keepL k v ob) = ob'
  | false => False

def resKO (T : Nat → Option TY) (rs : List ResultVar) (k : Nat) (r : AV) (ob' : List AObj) : Exit → AS → Prop
  | .normal, σ => resW T σ rs (fun v => see v fun v => finO k v σ.objs r ob')
  | .ret, σ => resW T σ rs (fun v => see v fun v => finO k v σ.objs r ob')
  | _, _ => False

def SpecO (P : Program) (f : Nat) (S : List AV → List AObj → Option (AV × List AObj)) : Prop :=
  ∀ args objs r objs', S args objs = some (r, objs') → (∀ cargs w, (callFunc f cargs).run P w = .ok (.enter f cargs) w) ∧ FnO P f args objs r objs'

theorem fnO_of' {P : Program} {T : Nat → Option TY} (hT : TOk P T) {f : Nat} {fn : Func} {c : Code} (hf : P.funcs[f]? = some fn) (hb : fn.body = some c)
    {args : List AV} {objs : List AObj} {r : AV} {ob' : List AObj} (hargs : args.length ≤ fn.ntmps)
    (h : RW P fn.ntmps c (resKO T fn.results.toList objs.length r ob') ⟨ini 0 args, objs⟩) : FnO P f args objs r ob' := by
  intro F ρ w cargs hw0 ho0 hr0 hH hsz hrel
  rw [← callsIn_wide (n := 9)]
  refine callsIn_of_wp_marks hf hb trivial ?_
  let F1 : Fr := { F with nt := fn.ntmps, ds := [] }
  have hH1 : RelH F1 ρ objs w := ⟨hH.ob, hH.inj, hH.own, hH.am, hH.frm, hH.ext⟩
  have hstart : Rel F1 ρ ⟨ini 0 args, objs⟩ { tmps := cargs ++ Array.replicate (fn.ntmps - cargs.size) undef, defers := [] } w := by
    refine ⟨by simp [F1, hsz]; omega, Marks.nil rfl, fun t => ?_, hH1⟩
    show RelV w _ ρ objs (look (ini 0 args) t) _
    rw [look_ini, if_pos (Nat.zero_le _), Nat.sub_zero, arr_getD_append]
    by_cases h1 : t < cargs.size
    · rw [if_pos h1]; exact hrel t (by omega)
    · rw [if_neg h1]
      have : args.getD t .undef = .undef := by simp [List.getD_eq_getElem?_getD, List.getElem?_eq_none (show args.length ≤ t by omega)]
      rw [this]
      exact .undef _
  refine wpIn_mono (h.ok F1 ρ _ w rfl hstart) ?_
  intro e a' w' hp
  have fin : ∀ (σ : AS) (ρ' : Nat → Option (Nat × Nat)), resW T σ fn.results.toList (fun v => see v fun v => finO objs.length v σ.objs r ob') → Rel F1 ρ' σ a' w' →
      LeavesInM Fence.wide 9 P fn a'.tmps (fun e w' => ∃ v ρ'', e = .returned v ∧ RelH F ρ'' ob' w' ∧ RelV w' (Wrt F ρ'' ob') ρ'' ob' r v) a'.defers .returning w' := by
    intro σ ρ' hq hr0
    refine fin_ok rfl hr0 fun w' hr => ?_
    obtain ⟨v, hv, hsee⟩ := resW_elim hq
    have hfin := see_elim hsee
    unfold finO at hfin
    split at hfin
    · rename_i hc
      simp only [Bool.and_eq_true] at hc
      obtain ⟨⟨hl, hid⟩, hpre⟩ := hc
      obtain ⟨rfl, rfl⟩ := hfin
      obtain ⟨cv, hrun, hrv⟩ := results_ok hT hr hv
      generalize keepL objs.length v σ.objs = keep at hl hid hpre
      obtain ⟨k1, k2⟩ := hr.hp.loc (F2 := F) hl (fun b hb => .inl hb) (fun id b δ hid' hρ => by
          obtain ⟨o, h1, _, _⟩ := locOk_spec hl hid'
          exact hr.hp.own id o b δ h1 hρ) hr.hp.am hr.hp.frm (by
        refine ⟨fun id o ho => ?_⟩
        have hlt : id < objs.length := by rw [← ho0]; exact (List.getElem?_eq_some_iff.1 ho).1
        obtain ⟨o', h1, h2, h3⟩ := hr.hp.ext.ext id o ho
        have hk := prefB_get hpre id hlt
        rw [Nat.zero_add] at hk
        have hn : nodupL keep = true := by simp only [locOk, Bool.and_eq_true] at hl; exact hl.1
        obtain ⟨o2, e1, _, e3⟩ := locOk_spec hl (List.mem_of_getElem? hk)
        rw [h1] at e1; cases e1
        rw [idx_nodup hn hk] at e3
        refine ⟨_, e3, by rw [AObj.ren_gen]; exact h2, fun hg => ?_⟩
        rw [AObj.ren_gen] at hg
        obtain ⟨a, b, c⟩ := h3 hg
        refine ⟨by rw [AObj.ren_sz]; exact a, by rw [AObj.ren_rows]; exact b, ?_⟩
        simp [locR, hk]
        exact c)
      exact ⟨cv, hrun, cv, _, rfl, k1, hrv.loc hl hid (fun b _ hn hw => hn (k2 b hw))⟩
    · exact hfin.elim
  cases e with
  | normal => obtain ⟨σ, ρ', hq, hr⟩ := hp; exact fin σ ρ' hq hr
  | ret => obtain ⟨σ, ρ', hq, hr⟩ := hp; exact fin σ ρ' hq hr
  | exit id => obtain ⟨σ, ρ', hq, hr⟩ := hp; exact hq.elim
  | goto l => obtain ⟨σ, ρ', hq, hr⟩ := hp; exact hq.elim
  | panic c => exact hp.elim
  | outgrown => exact hp.elim

theorem fnO_of {P : Program} {T : Nat → Option TY} {tbl : Tbl} (hT : TOk P T) (ht : TblOk P tbl) (hmix : P.follows .mixedOrders = true) {f : Nat} {fn : Func} {c : Code} (hf : P.funcs[f]? = some fn) (hb : fn.body = some c)
    (hok : codeOk tbl fn.ntmps c = true) {args : List AV} {objs : List AObj} {r : AV} {ob' : List AObj} (hargs : args.length ≤ fn.ntmps)
    (h : rwp T tbl (strip tbl c) (resKO T fn.results.toList objs.length r ob') ⟨ini 0 args, objs⟩) : FnO P f args objs r ob' :=
  fnO_of' hT hf hb hargs (.of hT ht hmix hok h)

theorem specO_of {P : Program} {T : Nat → Option TY} {tbl : Tbl} (hT : TOk P T) (ht : TblOk P tbl) (hmix : P.follows .mixedOrders = true) {f : Nat} {fn : Func} {c : Code} (hf : P.funcs[f]? = some fn)
    (hname : (fn.name == "runtime.NumGoroutine") = false) (hb : fn.body = some c) (hok : codeOk tbl fn.ntmps c = true) {S : List AV → List AObj → Option (AV × List AObj)}
    (h : ∀ args objs r objs', S args objs = some (r, objs') → args.length ≤ fn.ntmps ∧ rwp T tbl (strip tbl c) (resKO T fn.results.toList objs.length r objs') ⟨ini 0 args, objs⟩) : SpecO P f S := by
  intro args objs r objs' hs
  obtain ⟨h1, h2⟩ := h args objs r objs' hs
  refine ⟨fun cargs w => ?_, fnO_of hT ht hmix hf hb hok h1 h2⟩
  have hn : fn.name ≠ "runtime.NumGoroutine" := by simpa using hname
  simp [callFunc, hf, hn, hb, mark]

def tblAddO (f : Nat) (S : List AV → List AObj → Option (AV × List AObj)) (tbl : Tbl) : Tbl :=
  { tbl with k := fun g => if g = f then true else tbl.k g, o := fun g args objs => if g = f then S args objs else tbl.o g args objs }
theorem tblAddO_ok {P : Program} {f : Nat} {S : List AV → List AObj → Option (AV × List AObj)} {tbl : Tbl} (h : SpecO P f S) (ht : TblOk P tbl) : TblOk P (tblAddO f S tbl) := by
  refine ⟨ht.c, fun g args objs r objs' hr => ?_, ht.it, ht.q⟩
  simp only [tblAddO] at hr
  split at hr
  · rename_i e; subst e; exact h args objs r objs' hr
  · exact ht.o g args objs r objs' hr

/-- A loop's state, known at some slots alone. -/
theorem Weak.at {σ : AS} (l : List (Nat × AV)) (h : ∀ p ∈ l, σ.get p.1 = p.2) : Weak σ ⟨l, σ.objs⟩ := by
  refine Weak.slots l fun t => ?_
  induction l with
  | nil => exact .inl rfl
  | cons p l ih =>
    simp only [look]
    split
    · rename_i e
      right
      have := h p (List.mem_cons_self ..)
      rw [← e]; exact this.symm
    · exact ih fun q hq => h q (List.mem_cons_of_mem _ hq)

end Go.AI

namespace Go.AI
/-- Slots say the same, up to the objects' numbers. -/
def permAt (σ : AS) (locs : List Nat) : List (Nat × AV) → Prop
  | [] => True
  | (t, v) :: l => ((σ.get t).allId (inL locs) = true ∧ (σ.get t).ren (idx locs) = v) ∧ permAt σ locs l

theorem permAt_look {σ : AS} {locs : List Nat} : ∀ {l : List (Nat × AV)}, permAt σ locs l → ∀ t, look l t = .undef ∨ ((σ.get t).allId (inL locs) = true ∧ (σ.get t).ren (idx locs) = look l t)
  | [], _, t => .inl rfl
  | (t', v) :: l, ⟨h1, h2⟩, t => by
    by_cases e : t' = t
    · subst e; right; simpa [look] using h1
    · simp only [look, if_neg e]
      exact permAt_look h2 t

/-- Objects beyond the first ones come in another order. -/
theorem WeakN.perm {n : Nat} {σ : AS} (locs : List Nat) {l : List (Nat × AV)} {ob : List AObj} (h1 : locOk σ.objs locs = true) (h2 : (List.range n).all (fun i => locs[i]? == some i) = true)
    (h3 : locO σ.objs locs = ob) (h4 : permAt σ locs l) : WeakN n σ ⟨l, ob⟩ := by
  refine ⟨fun F ρ a w hn hr => ?_⟩
  subst h3
  have hp := hr.hp
  obtain ⟨h5, h6⟩ := RelH.loc (F2 := F) h1 hp (fun b hb => .inl hb) (fun id b δ hid hρ => by
      obtain ⟨o, ho, _⟩ := locOk_spec h1 hid
      exact hp.own id o b δ ho hρ) hp.am hp.frm ⟨fun id o ho => by
      have hlt : id < n := by
        rcases Nat.lt_or_ge id n with h | h
        · exact h
        · rw [List.getElem?_eq_none (by omega)] at ho; cases ho
      rw [List.all_eq_true] at h2
      have hid := eq_of_beq (h2 id (List.mem_range.2 hlt))
      obtain ⟨o', k1, k2, k3⟩ := hp.ext.ext id o ho
      refine ⟨o'.ren (idx locs), by simp [locO, hid, k1], by rw [AObj.ren_gen]; exact k2, fun e => ?_⟩
      rw [AObj.ren_gen] at e
      obtain ⟨a1, a2, a3⟩ := k3 e
      exact ⟨by rw [AObj.ren_sz]; exact a1, by rw [AObj.ren_rows]; exact a2, by simp [locR, hid, a3]⟩⟩
  refine ⟨locR ρ locs, hr.nt, hr.ds, fun t => ?_, h5⟩
  show RelV w _ (locR ρ locs) (locO σ.objs locs) (look l t) _
  rcases permAt_look h4 t with h | ⟨h, e⟩
  · rw [h]; exact .undef _
  · rw [← e]
    exact (hr.tm t).loc h1 h fun b _ hnw hw => hnw (h6 b hw)
end Go.AI
