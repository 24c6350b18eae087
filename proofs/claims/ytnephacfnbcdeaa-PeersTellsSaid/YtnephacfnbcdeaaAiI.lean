/- Contracts of functions out of walks of their texts. -/
import Derived.Test.YtnephacfnbcdeaaAiH
namespace Go.AI
set_option linter.unusedVariables false

def ini : Nat → List AV → List (Nat × AV)
  | _, [] => []
  | k, v :: l => (k, v) :: ini (k + 1) l

theorem look_ini : ∀ (l : List AV) (k t : Nat), look (ini k l) t = if k ≤ t then l.getD (t - k) .undef else .undef := by
  intro l
  induction l with
  | nil => intro k t; simp [ini, look]
  | cons v l ih =>
    intro k t
    simp only [ini, look]
    by_cases h : k = t
    · subst h; simp
    · rw [if_neg h, ih]
      by_cases h2 : k ≤ t
      · have h3 : k + 1 ≤ t := by omega
        have h4 : t - k = (t - (k + 1)) + 1 := by omega
        rw [if_pos h2, if_pos h3, h4, List.getD_cons_succ]
      · rw [if_neg h2, if_neg (by omega)]

def aResL (σ : AS) : List ResultVar → Option (List AV)
  | [] => some []
  | .tmp t :: l => (aResL σ l).map (σ.get t :: ·)
  | .cell _ _ :: _ => none

def aRes (σ : AS) (rs : List ResultVar) : Option AV :=
  match rs with
  | [.tmp t] => some (σ.get t)
  | rs => (aResL σ rs).map .tup

def resK (rs : List ResultVar) (r : AV) : Exit → AS → Prop
  | .normal, σ => okk (aRes σ rs) (fun v => see v fun v => v = r)
  | .ret, σ => okk (aRes σ rs) (fun v => see v fun v => v = r)
  | _, _ => False

theorem run_mapM_list {P : Program} {α : Type} (f : α → Sem Value) (g : α → Value) (w : World) : ∀ (l : List α), (∀ x ∈ l, (f x).run P w = .ok (g x) w) → (l.mapM f).run P w = .ok (l.map g) w := by
  intro l
  induction l with
  | nil => intro _; simp
  | cons x l ih =>
    intro h
    have h1 := h x (List.mem_cons_self ..)
    have h2 := ih fun y hy => h y (List.mem_cons_of_mem _ hy)
    simp [List.mapM_cons, h1, h2]

theorem run_mapM_array {P : Program} {α : Type} (f : α → Sem Value) (g : α → Value) (w : World) (l : Array α) (h : ∀ x ∈ l, (f x).run P w = .ok (g x) w) : (l.mapM f).run P w = .ok (l.map g) w := by
  rw [Array.mapM_eq_mapM_toList]
  have := run_mapM_list (P := P) f g w l.toList (fun x hx => h x (by simpa using hx))
  have h2 : (List.map g l.toList).toArray = Array.map g l := by rw [← Array.toList_map]
  simp [this, h2]

def resG (tmps : Array Value) : ResultVar → Value
  | .tmp t => tmps.getD t undef
  | .cell _ _ => undef

theorem aResL_tmps {σ : AS} : ∀ {rs : List ResultVar} {vs : List AV}, aResL σ rs = some vs → (∀ rv ∈ rs, ∃ t, rv = .tmp t) ∧ vs.length = rs.length ∧ ∀ i t, rs[i]? = some (.tmp t) → vs.getD i .undef = σ.get t := by
  intro rs
  induction rs with
  | nil => intro vs h; cases h; exact ⟨fun _ h => (by cases h), rfl, fun i t h => (by simp at h)⟩
  | cons rv rs ih =>
    intro vs h
    cases rv with
    | cell a t => cases h
    | tmp t =>
      simp only [aResL] at h
      cases h1 : aResL σ rs with
      | none => rw [h1] at h; cases h
      | some vs' =>
        rw [h1] at h
        cases h
        obtain ⟨a, b, c⟩ := ih h1
        refine ⟨fun rv hrv => ?_, by simp [b], fun i u hi => ?_⟩
        · rcases List.mem_cons.1 hrv with rfl | hrv
          · exact ⟨t, rfl⟩
          · exact a rv hrv
        · cases i with
          | zero => simp at hi; subst hi; simp
          | succ i => simp at hi; simpa using c i u hi

theorem results_ok {P : Program} {fn : Func} {F : Fr} {ρ : Nat → Option (Nat × Nat)} {σ : AS} {a : Act} {w : World} (h : Rel F ρ σ a w) {r : AV} (hr : aRes σ fn.results.toList = some r) :
    ∃ v, (results fn a.tmps).run P w = .ok v w ∧ RelV w (Wrt F ρ σ.objs) ρ σ.objs r v := by
  have gen : (∀ rv ∈ fn.results.toList, ∃ t, rv = .tmp t) → (results fn a.tmps).run P w = .ok (if h : (fn.results.map (resG a.tmps)).size = 1 then (fn.results.map (resG a.tmps))[0] else .tuple (fn.results.map (resG a.tmps))) w := by
    intro hall
    unfold results
    rw [Sem.run_bind, run_mapM_array _ (resG a.tmps) w fn.results (by
      intro x hx
      obtain ⟨t, rfl⟩ := hall x (by simpa using hx)
      simp [resG])]
    simp [Result.andThen]
  unfold aRes at hr
  split at hr
  · rename_i t hrs
    cases hr
    refine ⟨a.tmps.getD t undef, ?_, h.tm t⟩
    rw [gen (by rw [hrs]; intro rv hrv; simp at hrv; exact ⟨t, hrv⟩)]
    have h1 : fn.results = #[.tmp t] := by rw [← Array.toArray_toList (xs := fn.results), hrs]
    simp [h1, resG]
  · rename_i hne
    cases h1 : aResL σ fn.results.toList with
    | none => rw [h1] at hr; cases hr
    | some vs =>
      rw [h1] at hr
      cases hr
      obtain ⟨hall, hlen, hget⟩ := aResL_tmps h1
      refine ⟨.tuple (fn.results.map (resG a.tmps)), ?_, .tup _ _ (by simp [hlen]) fun i hi => ?_⟩
      · rw [gen hall]
        have : ¬ (fn.results.map (resG a.tmps)).size = 1 := by
          intro h2
          simp at h2
          obtain ⟨x, hx⟩ : ∃ x, fn.results.toList = [x] := List.length_eq_one_iff.1 (by simpa using h2)
          obtain ⟨t, rfl⟩ := hall x (by rw [hx]; exact List.mem_singleton.2 rfl)
          exact hne t hx
        rw [dif_neg this]
      · have hi' : i < fn.results.size := by simpa [hlen] using hi
        obtain ⟨t, ht⟩ := hall fn.results[i] (by simp)
        rw [hget i t (by simp [hi', ht])]
        have : (fn.results.map (resG a.tmps)).getD i undef = a.tmps.getD t undef := by
          simp [Array.getD_eq_getD_getElem?, hi', ht, resG]
        rw [this]
        exact h.tm t

/-- What a function's contract owes the table. -/
def SpecOk (P : Program) (f : Nat) (S : List AV → Option AV) : Prop :=
  ∀ args r, S args = some r → (∀ cargs w, (callFunc f cargs).run P w = .ok (.enter f cargs) w) ∧ (∀ i, i < args.length → (args.getD i .undef).closed = true) ∧ Fn0 P f args r

theorem fn0_of' {P : Program} {f : Nat} {fn : Func} {c : Code} (hf : P.funcs[f]? = some fn) (hb : fn.body = some c)
    {args : List AV} {r : AV} (hargs : args.length ≤ fn.ntmps) (hcl : r.closed = true)
    (h : RW P fn.ntmps c (resK fn.results.toList r) ⟨ini 0 args, []⟩) : Fn0 P f args r := by
  intro Am w cargs hAm hsz hrel
  rw [← callsIn_wide (n := 9)]
  refine callsIn_of_wp_marks hf hb trivial ?_
  let F : Fr := ⟨fn.ntmps, [], Am, fun _ => False, w, [], fun _ => none⟩
  let ρ : Nat → Option (Nat × Nat) := fun _ => none
  have hW : ∀ b, Wrt F ρ [] b ↔ Am b := fun b => ⟨fun h => h.elim id fun ⟨_, _, _, h, _⟩ => (by simp at h), Or.inl⟩
  have hstart : Rel F ρ ⟨ini 0 args, []⟩ { tmps := cargs ++ Array.replicate (fn.ntmps - cargs.size) undef, defers := [] } w := by
    refine ⟨by simp [F, hsz]; omega, Marks.nil rfl, fun t => ?_, ⟨fun id o ho => (by simp at ho), fun id id' o o' b δ δ' ho => (by simp at ho), fun id o b δ ho => (by simp at ho), hAm, Frm.refl _ _, Ext.refl _ _⟩⟩
    show RelV w _ ρ [] (look (ini 0 args) t) _
    rw [look_ini, if_pos (Nat.zero_le _), Nat.sub_zero, arr_getD_append]
    by_cases h1 : t < cargs.size
    · rw [if_pos h1]
      exact (hrel t (by omega)).stay (Frm.refl _ _) (fun b _ hn hw => hn ((hW b).1 hw)) (Ext.refl _ _)
    · rw [if_neg h1]
      have : args.getD t .undef = .undef := by simp [List.getD_eq_getElem?_getD, List.getElem?_eq_none (show args.length ≤ t by omega)]
      rw [this]
      exact .undef _
  refine wpIn_mono (h.ok F ρ _ w rfl hstart) ?_
  intro e a' w' hp
  have fin : ∀ (σ : AS) (ρ' : Nat → Option (Nat × Nat)), okk (aRes σ fn.results.toList) (fun v => see v fun v => v = r) → Rel F ρ' σ a' w' →
      LeavesInM Fence.wide 9 P fn a'.tmps (fun e w' => ∃ v, e = .returned v ∧ RelV w' Am (fun _ => none) [] r v ∧ Frm (fun _ => False) w w') a'.defers .returning w' := by
    intro σ ρ' hq hr0
    refine fin_ok rfl hr0 fun w' hr => ?_
    rw [okk_iff] at hq
    obtain ⟨v, hv, hsee⟩ := hq
    obtain rfl := see_elim hsee
    obtain ⟨cv, hrun, hrv⟩ := results_ok (P := P) hr hv
    exact ⟨cv, hrun, cv, rfl, hrv.lift hcl (fun b _ hn ha => hn (.inl ha)), hr.hp.frm⟩
  cases e with
  | normal => obtain ⟨σ, ρ', hq, hr⟩ := hp; exact fin σ ρ' hq hr
  | ret => obtain ⟨σ, ρ', hq, hr⟩ := hp; exact fin σ ρ' hq hr
  | exit id => obtain ⟨σ, ρ', hq, hr⟩ := hp; exact hq.elim
  | goto l => obtain ⟨σ, ρ', hq, hr⟩ := hp; exact hq.elim
  | panic c => exact hp.elim
  | outgrown => exact hp.elim

theorem fn0_of {P : Program} {T : Nat → Option TY} {tbl : Tbl} (hT : TOk P T) (ht : TblOk P tbl) (hmix : P.follows .mixedOrders = true) {f : Nat} {fn : Func} {c : Code} (hf : P.funcs[f]? = some fn) (hb : fn.body = some c)
    (hok : codeOk tbl fn.ntmps c = true) {args : List AV} {r : AV} (hargs : args.length ≤ fn.ntmps) (hcl : r.closed = true)
    (h : rwp T tbl (strip c) (resK fn.results.toList r) ⟨ini 0 args, []⟩) : Fn0 P f args r :=
  fn0_of' hf hb hargs hcl (.of hT ht hmix hok h)

theorem spec_of {P : Program} {T : Nat → Option TY} {tbl : Tbl} (hT : TOk P T) (ht : TblOk P tbl) (hmix : P.follows .mixedOrders = true) {f : Nat} {fn : Func} {c : Code} (hf : P.funcs[f]? = some fn)
    (hname : (fn.name == "runtime.NumGoroutine") = false) (hb : fn.body = some c) (hok : codeOk tbl fn.ntmps c = true) {S : List AV → Option AV}
    (h : ∀ args r, S args = some r → args.length ≤ fn.ntmps ∧ closedL args = true ∧ r.closed = true ∧ rwp T tbl (strip c) (resK fn.results.toList r) ⟨ini 0 args, []⟩) : SpecOk P f S := by
  intro args r hs
  obtain ⟨h1, h2, h3, h4⟩ := h args r hs
  refine ⟨fun cargs w => ?_, fun i hi => closed_get h2 hi, fn0_of hT ht hmix hf hb hok h1 h3 h4⟩
  have hn : fn.name ≠ "runtime.NumGoroutine" := by simpa using hname
  simp [callFunc, hf, hn, hb, mark]

def tbl0 : Tbl := ⟨fun _ _ => none, fun _ => false, fun _ _ _ => none, fun _ n => n == 1, fun _ _ => false, fun _ _ => none⟩
theorem tbl0_ok (P : Program) : TblOk P tbl0 := ⟨fun f args r h => (by cases h), fun f args objs r objs' h => (by cases h), fun f x it h => (by cases h)⟩

def tblAdd (f : Nat) (S : List AV → Option AV) (tbl : Tbl) : Tbl := { tbl with c := fun g args => if g = f then S args else tbl g args }
theorem tblAdd_ok {P : Program} {f : Nat} {S : List AV → Option AV} {tbl : Tbl} (h : SpecOk P f S) (ht : TblOk P tbl) : TblOk P (tblAdd f S tbl) := by
  refine ⟨fun g args r hr => ?_, ht.o, ht.it⟩
  simp only [tblAdd] at hr
  split at hr
  · rename_i e; subst e; exact h args r hr
  · exact ht.c g args r hr

/-- Variables of n cells are read at places that are no numerals, where their elements are of type t. -/
def tblS (t n : Nat) (tbl : Tbl) : Tbl := { tbl with s := fun u m => (u == t && m == n) || tbl.s u m }
theorem tblS_ok {P : Program} {t n : Nat} {tbl : Tbl} (ht : TblOk P tbl) : TblOk P (tblS t n tbl) := ⟨ht.c, ht.o, ht.it⟩
def tblIt (f : Nat) (S : D → Option ItC) (tbl : Tbl) : Tbl := { tbl with it := fun g x => if g = f then S x else tbl.it g x }
theorem tblIt_ok {P : Program} {f : Nat} {S : D → Option ItC} {tbl : Tbl} (h : ∀ x it, S x = some it → ItOk P f x it) (ht : TblOk P tbl) : TblOk P (tblIt f S tbl) := by
  refine ⟨ht.c, ht.o, fun g x it hr => ?_⟩
  simp only [tblIt] at hr
  split at hr
  · rename_i e; subst e; exact h x it hr
  · exact ht.it g x it hr

end Go.AI

namespace Go.AI
theorem zeroOk_of {l : List AV} {z : Value} (h : z.cells.toList.map ofVal = l) : zeroOk l z := by
  subst h
  refine ⟨by simp, fun i hi w Wr ρ objs => ?_⟩
  have hi' : i < z.cells.size := by simpa using hi
  have e1 : (z.cells.toList.map ofVal).getD i .undef = ofVal z.cells[i] := by simp [List.getD_eq_getElem?_getD, hi']
  have e2 : z.cells.getD i undef = z.cells[i] := by simp [Array.getD_eq_getD_getElem?, hi']
  rw [e1, e2]
  exact ofVal_ok _ _ _ _ _
end Go.AI
