/- Contracts of functions out of walks of their texts. -/
import Derived.Test.YtjdjfchhbocncaaGreatAiH
namespace Go.AI
set_option linter.unusedVariables false

def ini : Nat → List AV → List (Nat × AV)
  | _, [] => []
  | k, v :: l => (k, v) :: ini (k + 1) l

theorem look_ini : ∀ (l : List AV) (k t : Nat), look (ini k l) t = if k ≤ t then l.getD (t - k) .undef else .undef := by
  intro l
  induction l with
  | nil => intro k t; simp [ini, look]
  | cons v l ih =>
    intro k t
    simp only [ini, look]
    by_cases h : k = t
    · subst h; simp
    · rw [if_neg h, ih]
      by_cases h2 : k ≤ t
      · have h3 : k + 1 ≤ t := by omega
        have h4 : t - k = (t - (k + 1)) + 1 := by omega
        rw [if_pos h2, if_pos h3, h4, List.getD_cons_succ]
      · rw [if_neg h2, if_neg (by omega)]

/-- A result: a slot, or what a variable holds. -/
def aRes1 (T : Nat → Option TY) (σ : AS) : ResultVar → Option AV
  | .tmp t => some (σ.get t)
  | .cell a t => match T t with
    | some y => loadA y (σ.get a) σ.objs
    | none => none

def aResL (T : Nat → Option TY) (σ : AS) : List ResultVar → Option (List AV)
  | [] => some []
  | rv :: l => match aRes1 T σ rv, aResL T σ l with
    | some v, some vs => some (v :: vs)
    | _, _ => none

def aRes (T : Nat → Option TY) (σ : AS) (rs : List ResultVar) : Option AV :=
  match rs with
  | [rv] => aRes1 T σ rv
  | rs => match aResL T σ rs with
    | some vs => some (.tup vs)
    | none => none

def resW1 (T : Nat → Option TY) (σ : AS) (rv : ResultVar) (k : AV → Prop) : Prop :=
  match rv with
  | .tmp t => k (σ.get t)
  | .cell a t => match T t with
    | some y => loadW (fun _ => false) y (σ.get a) σ.objs k
    | none => False

theorem resW1_elim {T : Nat → Option TY} {σ : AS} {rv : ResultVar} {k : AV → Prop} (h : resW1 T σ rv k) : ∃ v, aRes1 T σ rv = some v ∧ k v := by
  cases rv with
  | tmp t => exact ⟨_, rfl, h⟩
  | cell a t =>
    simp only [resW1] at h
    simp only [aRes1]
    split at h
    · rename_i y hy
      obtain ⟨r, hr, hk⟩ := loadW_elim h
      exact ⟨r, by first | exact hr | (simp only [hy]; exact hr), hk⟩
    · exact h.elim

def resWL (T : Nat → Option TY) (σ : AS) : List ResultVar → (List AV → Prop) → Prop
  | [], k => k []
  | rv :: l, k => resW1 T σ rv fun v => resWL T σ l fun vs => k (v :: vs)

theorem resWL_elim {T : Nat → Option TY} {σ : AS} : ∀ {l : List ResultVar} {k : List AV → Prop}, resWL T σ l k → ∃ vs, aResL T σ l = some vs ∧ k vs := by
  intro l
  induction l with
  | nil => intro k h; exact ⟨_, rfl, h⟩
  | cons rv l ih =>
    intro k h
    obtain ⟨v, h1, h2⟩ := resW1_elim h
    obtain ⟨vs, h3, h4⟩ := ih h2
    exact ⟨v :: vs, by simp only [aResL, h1, h3], h4⟩

def resW (T : Nat → Option TY) (σ : AS) (rs : List ResultVar) (k : AV → Prop) : Prop :=
  match rs with
  | [rv] => resW1 T σ rv k
  | rs => resWL T σ rs fun vs => k (.tup vs)

theorem resW_elim {T : Nat → Option TY} {σ : AS} {rs : List ResultVar} {k : AV → Prop} (h : resW T σ rs k) : ∃ v, aRes T σ rs = some v ∧ k v := by
  unfold resW at h
  unfold aRes
  split at h
  · exact resW1_elim h
  · obtain ⟨vs, h1, h2⟩ := resWL_elim h
    exact ⟨.tup vs, by simp only [h1], h2⟩

def resK (T : Nat → Option TY) (rs : List ResultVar) (r : AV) : Exit → AS → Prop
  | .normal, σ => resW T σ rs (fun v => see v fun v => v = r)
  | .ret, σ => resW T σ rs (fun v => see v fun v => v = r)
  | _, _ => False

/-- A result's value, as the machine takes it. -/
def resRun (tmps : Array Value) : ResultVar → Sem Value
  | .tmp t => pure (tmps.getD t undef)
  | .cell a t => do loadVar t (← asAddr (tmps.getD a undef))

theorem res1_ok {P : Program} {T : Nat → Option TY} (hT : TOk P T) {F : Fr} {ρ : Nat → Option (Nat × Nat)} {σ : AS} {a : Act} {w : World} (h : Rel F ρ σ a w) {rv : ResultVar} {r : AV} (hr : aRes1 T σ rv = some r) :
    ∃ v, (resRun a.tmps rv).run P w = .ok v w ∧ RelV w (Wrt F ρ σ.objs) ρ σ.objs r v := by
  cases rv with
  | tmp t => cases hr; exact ⟨_, by simp [resRun], h.tm t⟩
  | cell b t =>
    simp only [aRes1] at hr
    split at hr
    · rename_i y hy
      obtain ⟨u, hu, hru⟩ := loadA_ok hT h.hp hy (h.tm b) hr
      refine ⟨u, ?_, hru⟩
      have hb := h.tm b
      have hp : ∃ pa, a.tmps.getD b undef = .pointer (some pa) := by
        generalize a.tmps.getD b undef = bv at hb
        generalize σ.get b = x at hb hr
        unfold loadA at hr
        split at hr
        · cases hb with | ptr _ _ _ _ _ _ _ _ hs _ => exact hs
        · cases hb with | rptr => exact ⟨_, rfl⟩
        · cases hr
      obtain ⟨pa, hpa⟩ := hp
      rw [hpa] at hu
      have h1 : (Instr.loadAt t (.pointer (some pa))).run P w = (loadVar t pa).run P w := by simp [Instr.loadAt, Instr.sureAddr]
      rw [h1] at hu
      simp [resRun, hpa, asAddr, hu]
    · cases hr

theorem resL_ok {P : Program} {T : Nat → Option TY} (hT : TOk P T) {F : Fr} {ρ : Nat → Option (Nat × Nat)} {σ : AS} {a : Act} {w : World} (h : Rel F ρ σ a w) : ∀ {rs : List ResultVar} {vs : List AV}, aResL T σ rs = some vs →
    ∃ cs : List Value, (rs.mapM (resRun a.tmps)).run P w = .ok cs w ∧ cs.length = rs.length ∧ vs.length = rs.length ∧ ∀ i, i < vs.length → RelV w (Wrt F ρ σ.objs) ρ σ.objs (vs.getD i .undef) (cs.getD i undef) := by
  intro rs
  induction rs with
  | nil => intro vs hv; cases hv; exact ⟨[], by simp, rfl, rfl, fun i hi => by simp at hi⟩
  | cons rv rs ih =>
    intro vs hv
    simp only [aResL] at hv
    split at hv
    · rename_i v vs' h1 h2
      cases hv
      obtain ⟨c, hc, hrc⟩ := res1_ok hT h h1
      obtain ⟨cs, hcs, hl1, hl2, hrl⟩ := ih h2
      refine ⟨c :: cs, by simp [List.mapM_cons, hc, hcs], by simp [hl1], by simp [hl2], fun i hi => ?_⟩
      cases i with
      | zero => simpa using hrc
      | succ i => simpa using hrl i (by simpa using hi)
    · cases hv

theorem results_ok {P : Program} {T : Nat → Option TY} (hT : TOk P T) {fn : Func} {F : Fr} {ρ : Nat → Option (Nat × Nat)} {σ : AS} {a : Act} {w : World} (h : Rel F ρ σ a w) {r : AV} (hr : aRes T σ fn.results.toList = some r) :
    ∃ v, (results fn a.tmps).run P w = .ok v w ∧ RelV w (Wrt F ρ σ.objs) ρ σ.objs r v := by
  have gen : ∀ cs : List Value, (fn.results.toList.mapM (resRun a.tmps)).run P w = .ok cs w → (results fn a.tmps).run P w = .ok (if h : cs.toArray.size = 1 then cs.toArray[0] else .tuple cs.toArray) w := by
    intro cs hcs
    have e : results fn a.tmps = (do let vs ← fn.results.mapM (resRun a.tmps); pure (if h : vs.size = 1 then vs[0] else .tuple vs)) := by
      unfold results
      congr 1
    rw [e, Sem.run_bind, Array.mapM_eq_mapM_toList]
    simp [hcs, Result.andThen]
  unfold aRes at hr
  split at hr
  · rename_i rv hrs
    obtain ⟨v, hv, hrv⟩ := res1_ok hT h hr
    refine ⟨v, ?_, hrv⟩
    rw [gen [v] (by rw [hrs]; simp [hv])]
    rfl
  · rename_i hne
    split at hr
    · rename_i vs h1
      cases hr
      obtain ⟨cs, hcs, hl1, hl2, hrl⟩ := resL_ok hT h h1
      refine ⟨.tuple cs.toArray, ?_, .tup _ _ (by simp [hl1, hl2]) fun i hi => ?_⟩
      · rw [gen cs hcs]
        have : ¬ cs.toArray.size = 1 := by
          intro h2
          have h3 : fn.results.toList.length = 1 := by rw [← hl1]; simpa using h2
          obtain ⟨x, hx⟩ := List.length_eq_one_iff.1 h3
          exact hne x hx
        rw [dif_neg this]
      · have := hrl i hi
        simpa [List.getD_eq_getElem?_getD, Array.getD_eq_getD_getElem?] using this
    · cases hr

/-- What a function's contract owes the table. -/
def SpecOk (P : Program) (f : Nat) (S : List AV → Option AV) : Prop :=
  ∀ args r, S args = some r → (∀ cargs w, (callFunc f cargs).run P w = .ok (.enter f cargs) w) ∧ (∀ i, i < args.length → (args.getD i .undef).closed = true) ∧ Fn0 P f args r

theorem fn0_of' {P : Program} {T : Nat → Option TY} (hT : TOk P T) {f : Nat} {fn : Func} {c : Code} (hf : P.funcs[f]? = some fn) (hb : fn.body = some c)
    {args : List AV} {r : AV} (hargs : args.length ≤ fn.ntmps) (hcl : r.closed = true)
    (h : RW P fn.ntmps c (resK T fn.results.toList r) ⟨ini 0 args, []⟩) : Fn0 P f args r := by
  intro Am w cargs hAm hsz hrel
  rw [← callsIn_wide (n := 9)]
  refine callsIn_of_wp_marks hf hb trivial ?_
  let F : Fr := ⟨fn.ntmps, [], Am, fun _ => False, w, [], fun _ => none⟩
  let ρ : Nat → Option (Nat × Nat) := fun _ => none
  have hW : ∀ b, Wrt F ρ [] b ↔ Am b := fun b => ⟨fun h => h.elim id fun ⟨_, _, _, h, _⟩ => (by simp at h), Or.inl⟩
  have hstart : Rel F ρ ⟨ini 0 args, []⟩ { tmps := cargs ++ Array.replicate (fn.ntmps - cargs.size) undef, defers := [] } w := by
    refine ⟨by simp [F, hsz]; omega, Marks.nil rfl, fun t => ?_, ⟨fun id o ho => (by simp at ho), fun id id' o o' b δ δ' ho => (by simp at ho), fun id o b δ ho => (by simp at ho), hAm, Frm.refl _ _, Ext.refl _ _⟩⟩
    show RelV w _ ρ [] (look (ini 0 args) t) _
    rw [look_ini, if_pos (Nat.zero_le _), Nat.sub_zero, arr_getD_append]
    by_cases h1 : t < cargs.size
    · rw [if_pos h1]
      exact (hrel t (by omega)).stay (Frm.refl _ _) (fun b _ hn hw => hn ((hW b).1 hw)) (Ext.refl _ _)
    · rw [if_neg h1]
      have : args.getD t .undef = .undef := by simp [List.getD_eq_getElem?_getD, List.getElem?_eq_none (show args.length ≤ t by omega)]
      rw [this]
      exact .undef _
  refine wpIn_mono (h.ok F ρ _ w rfl hstart) ?_
  intro e a' w' hp
  have fin : ∀ (σ : AS) (ρ' : Nat → Option (Nat × Nat)), resW T σ fn.results.toList (fun v => see v fun v => v = r) → Rel F ρ' σ a' w' →
      LeavesInM Fence.wide 9 P fn a'.tmps (fun e w' => ∃ v, e = .returned v ∧ RelV w' Am (fun _ => none) [] r v ∧ Frm (fun _ => False) w w') a'.defers .returning w' := by
    intro σ ρ' hq hr0
    refine fin_ok rfl hr0 fun w' hr => ?_
    obtain ⟨v, hv, hsee⟩ := resW_elim hq
    obtain rfl := see_elim hsee
    obtain ⟨cv, hrun, hrv⟩ := results_ok hT hr hv
    exact ⟨cv, hrun, cv, rfl, hrv.lift hcl (fun b _ hn ha => hn (.inl ha)), hr.hp.frm⟩
  cases e with
  | normal => obtain ⟨σ, ρ', hq, hr⟩ := hp; exact fin σ ρ' hq hr
  | ret => obtain ⟨σ, ρ', hq, hr⟩ := hp; exact fin σ ρ' hq hr
  | exit id => obtain ⟨σ, ρ', hq, hr⟩ := hp; exact hq.elim
  | goto l => obtain ⟨σ, ρ', hq, hr⟩ := hp; exact hq.elim
  | panic c => exact hp.elim
  | outgrown => exact hp.elim

theorem fn0_of {P : Program} {T : Nat → Option TY} {tbl : Tbl} (hT : TOk P T) (ht : TblOk P tbl) (hmix : P.follows .mixedOrders = true) {f : Nat} {fn : Func} {c : Code} (hf : P.funcs[f]? = some fn) (hb : fn.body = some c)
    (hok : codeOk tbl fn.ntmps c = true) {args : List AV} {r : AV} (hargs : args.length ≤ fn.ntmps) (hcl : r.closed = true)
    (h : rwp T tbl (strip tbl c) (resK T fn.results.toList r) ⟨ini 0 args, []⟩) : Fn0 P f args r :=
  fn0_of' hT hf hb hargs hcl (.of hT ht hmix hok h)

theorem spec_of {P : Program} {T : Nat → Option TY} {tbl : Tbl} (hT : TOk P T) (ht : TblOk P tbl) (hmix : P.follows .mixedOrders = true) {f : Nat} {fn : Func} {c : Code} (hf : P.funcs[f]? = some fn)
    (hname : (fn.name == "runtime.NumGoroutine") = false) (hb : fn.body = some c) (hok : codeOk tbl fn.ntmps c = true) {S : List AV → Option AV}
    (h : ∀ args r, S args = some r → args.length ≤ fn.ntmps ∧ closedL args = true ∧ r.closed = true ∧ rwp T tbl (strip tbl c) (resK T fn.results.toList r) ⟨ini 0 args, []⟩) : SpecOk P f S := by
  intro args r hs
  obtain ⟨h1, h2, h3, h4⟩ := h args r hs
  refine ⟨fun cargs w => ?_, fun i hi => closed_get h2 hi, fn0_of hT ht hmix hf hb hok h1 h3 h4⟩
  have hn : fn.name ≠ "runtime.NumGoroutine" := by simpa using hname
  simp [callFunc, hf, hn, hb, mark]

def tbl0 : Tbl := ⟨fun _ _ => none, fun _ => false, fun _ _ _ => none, fun _ n => n == 1, fun _ _ => false, fun _ _ => none, fun _ => false, fun _ => 0, fun _ => none, fun _ => false, fun _ => false, fun _ => false⟩
theorem tbl0_ok (P : Program) : TblOk P tbl0 := ⟨fun f args r h => (by cases h), fun f args objs r objs' h => (by cases h), fun f x it h => (by cases h), fun t h => (by cases h)⟩

def tblAdd (f : Nat) (S : List AV → Option AV) (tbl : Tbl) : Tbl := { tbl with c := fun g args => if g = f then S args else tbl g args }
theorem tblAdd_ok {P : Program} {f : Nat} {S : List AV → Option AV} {tbl : Tbl} (h : SpecOk P f S) (ht : TblOk P tbl) : TblOk P (tblAdd f S tbl) := by
  refine ⟨fun g args r hr => ?_, ht.o, ht.it, ht.q⟩
  simp only [tblAdd] at hr
  split at hr
  · rename_i e; subst e; exact h args r hr
  · exact ht.c g args r hr

/-- Variables of n cells are read at places that are no numerals, where their elements are of type t. -/
def tblS (t n : Nat) (tbl : Tbl) : Tbl := { tbl with s := fun u m => (u == t && (n == 0 || m == n)) || tbl.s u m }
theorem tblS_ok {P : Program} {t n : Nat} {tbl : Tbl} (ht : TblOk P tbl) : TblOk P (tblS t n tbl) := ⟨ht.c, ht.o, ht.it, ht.q⟩
/-- Array variables of such a type lie as rows. -/
def tblA (t : Nat) (tbl : Tbl) : Tbl := { tbl with a := fun u => u == t || tbl.a u }
theorem tblA_ok {P : Program} {t : Nat} {tbl : Tbl} (ht : TblOk P tbl) : TblOk P (tblA t tbl) := ⟨ht.c, ht.o, ht.it, ht.q⟩
/-- How conversions from a type go: 1: bytes as a text; 2: a text as bytes that nobody writes; 3: a text as bytes. -/
def tblCv (t n : Nat) (tbl : Tbl) : Tbl := { tbl with cv := fun u => if u = t then n else tbl.cv u }
theorem tblCv_ok {P : Program} {t n : Nat} {tbl : Tbl} (ht : TblOk P tbl) : TblOk P (tblCv t n tbl) := ⟨ht.c, ht.o, ht.it, ht.q⟩
/-- A region's orders. -/
def tblD (n : Nat) (t : Tr) (tbl : Tbl) : Tbl := { tbl with d := fun u => if u = n then some t else tbl.d u }
theorem tblD_ok {P : Program} {n : Nat} {t : Tr} {tbl : Tbl} (ht : TblOk P tbl) : TblOk P (tblD n t tbl) := ⟨ht.c, ht.o, ht.it, ht.q⟩

/-- Structs of a type are held against each other. -/
def tblQ (t : Nat) (tbl : Tbl) : Tbl := { tbl with q := fun u => u == t || tbl.q u }
theorem tblQ_ok {P : Program} {t : Nat} {tbl : Tbl} (h : P.stoodInHeld t = false ∧ P.eqGuardType P.depth t = false) (ht : TblOk P tbl) : TblOk P (tblQ t tbl) := by
  refine ⟨ht.c, ht.o, ht.it, fun u hu => ?_⟩
  simp only [tblQ, Bool.or_eq_true, beq_iff_eq] at hu
  rcases hu with rfl | hu
  · exact h
  · exact ht.q u hu

def tblIt (f : Nat) (S : D → Option ItC) (tbl : Tbl) : Tbl := { tbl with it := fun g x => if g = f then S x else tbl.it g x }
theorem tblIt_ok {P : Program} {f : Nat} {S : D → Option ItC} {tbl : Tbl} (h : ∀ x it, S x = some it → ItOk P f x it) (ht : TblOk P tbl) : TblOk P (tblIt f S tbl) := by
  refine ⟨ht.c, ht.o, fun g x it hr => ?_, ht.q⟩
  simp only [tblIt] at hr
  split at hr
  · rename_i e; subst e; exact h x it hr
  · exact ht.it g x it hr

end Go.AI

namespace Go.AI
theorem zeroOk_of {l : List AV} {z : Value} (h : z.cells.toList.map ofVal = l) : zeroOk l z := by
  subst h
  refine ⟨by simp, fun i hi w Wr ρ objs => ?_⟩
  have hi' : i < z.cells.size := by simpa using hi
  have e1 : (z.cells.toList.map ofVal).getD i .undef = ofVal z.cells[i] := by simp [List.getD_eq_getElem?_getD, hi']
  have e2 : z.cells.getD i undef = z.cells[i] := by simp [Array.getD_eq_getD_getElem?, hi']
  rw [e1, e2]
  exact ofVal_ok _ _ _ _ _
end Go.AI
