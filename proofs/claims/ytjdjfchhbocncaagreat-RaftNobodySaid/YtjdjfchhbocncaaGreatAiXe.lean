/- Functions that are run outright: on abstract states that are known, calls and loops and all, by the kernel's own reckoning. -/
import Derived.Test.YtjdjfchhbocncaaGreatAiL
import Derived.Test.YtjdjfchhbocncaaGreatAiRg
namespace Go.AI
set_option linter.unusedVariables false

/-! ### Values are worked out -/
section
variable {α : Type}
def nfN (n : Nat) (k : Nat → α) : α :=
  match n with
  | 0 => k 0
  | m + 1 => k (m + 1)
theorem nfN_eq (n : Nat) (k : Nat → α) : nfN n k = k n := by cases n <;> rfl
def nfI (n : Int) (k : Int → α) : α :=
  match n with
  | .ofNat m => nfN m fun m => k (.ofNat m)
  | .negSucc m => nfN m fun m => k (.negSucc m)
theorem nfI_eq (n : Int) (k : Int → α) : nfI n k = k n := by cases n <;> simp only [nfI, nfN_eq]
def nfB (b : Bool) (k : Bool → α) : α :=
  match b with
  | true => k true
  | false => k false
theorem nfB_eq (b : Bool) (k : Bool → α) : nfB b k = k b := by cases b <;> rfl
def nfD (x : D) (k : D → α) : α :=
  match x with
  | .bool b => nfB b fun b => k (.bool b)
  | .int q n => nfI n fun n => k (.int q n)
  | x => k x
theorem nfD_eq (x : D) (k : D → α) : nfD x k = k x := by cases x <;> simp only [nfD, nfB_eq, nfI_eq]
def nfV1 (v : AV) (k : AV → α) : α :=
  match v with
  | .d x => nfD x fun x => k (.d x)
  | .win a b c g => nfN a fun a => nfN b fun b => nfN c fun c => nfN g fun g => k (.win a b c g)
  | .ptr a g b c => nfN a fun a => nfN g fun g => nfN b fun b => nfN c fun c => k (.ptr a g b c)
  | .mp a g => nfN a fun a => nfN g fun g => k (.mp a g)
  | v => k v
theorem nfV1_eq (v : AV) (k : AV → α) : nfV1 v k = k v := by cases v <;> simp only [nfV1, nfD_eq, nfN_eq]
def nfC (l : List AV) (k : List AV → α) : α :=
  match l with
  | [] => k []
  | v :: l => nfV1 v fun v => nfC l fun l => k (v :: l)
theorem nfC_eq : ∀ (l : List AV) (k : List AV → α), nfC l k = k l
  | [], _ => rfl
  | v :: l, k => by simp only [nfC, nfV1_eq, nfC_eq l]
def nfV (v : AV) (k : AV → α) : α :=
  match v with
  | .agg cs => nfC cs fun cs => k (.agg cs)
  | .tup cs => nfC cs fun cs => k (.tup cs)
  | .fn f cs => nfC cs fun cs => k (.fn f cs)
  | v => nfV1 v k
theorem nfV_eq (v : AV) (k : AV → α) : nfV v k = k v := by cases v <;> simp only [nfV, nfC_eq, nfV1_eq]
def nfO (o : AObj) (k : AObj → α) : α :=
  match o with
  | .var cs g => nfC cs fun cs => nfN g fun g => k (.var cs g)
  | .arr rs n g => nfN n fun n => nfN g fun g => k (.arr rs n g)
  | .map l g => nfN g fun g => k (.map l g)
  | .arv cs n g => nfC cs fun cs => nfN n fun n => nfN g fun g => k (.arv cs n g)
theorem nfO_eq (o : AObj) (k : AObj → α) : nfO o k = k o := by cases o <;> simp only [nfO, nfC_eq, nfN_eq]
def nfOs (l : List AObj) (k : List AObj → α) : α :=
  match l with
  | [] => k []
  | o :: l => nfO o fun o => nfOs l fun l => k (o :: l)
theorem nfOs_eq : ∀ (l : List AObj) (k : List AObj → α), nfOs l k = k l
  | [], _ => rfl
  | o :: l, k => by simp only [nfOs, nfO_eq, nfOs_eq l]
end

/-! ### Texts -/

def stepX (T : Nat → Option TY) (tbl : Tbl) (ops : Array Oper) (o : Oper) (σ : AS) (k : AS → Option (Exit × AS)) : Option (Exit × AS) :=
  match astepR T tbl ops o σ with
  | some (v, ob) => match Nat.ble (opK tbl o.op) 1 with
    | true => nfV v fun v => k (σ.res o.dst (v, ob))
    | false => nfV v fun v => nfOs ob fun ob => k (σ.res o.dst (v, ob))
  | none => none

def stepsX (T : Nat → Option TY) (tbl : Tbl) (ops : Array Oper) : List Oper → AS → Option (Exit × AS)
  | [], σ => some (.normal, σ)
  | o :: l, σ => stepX T tbl ops o σ fun σ => stepsX T tbl ops l σ

theorem stepsX_ok {T : Nat → Option TY} {tbl : Tbl} {ops : Array Oper} : ∀ (l : List Oper) {σ : AS} {r : Exit × AS}, stepsX T tbl ops l σ = some r → r.1 = .normal ∧ asteps T tbl ops l σ = some r.2
  | [], σ, r, h => by cases h; exact ⟨rfl, rfl⟩
  | o :: l, σ, r, h => by
    simp only [stepsX, stepX] at h
    simp only [asteps, astep]
    split at h
    · rename_i v ob hr
      rw [hr]
      simp only [nfV_eq, nfOs_eq] at h
      have h : stepsX T tbl ops l (σ.res o.dst (v, ob)) = some r := by
        split at h <;> exact h
      exact stepsX_ok l h
    · cases h

/-- What a region owes. -/
def regChk (tbl : Tbl) (nt : Nat) (ops : Array Oper) (draw : Bool) : Bool :=
  ops.toList.all (fun o => (match o.dst with | some t => decide (t < nt) | none => true) && (match o.guard with | none => true | some (j, _) => ((ops[j]?).bind (·.dst)).isSome)) && (!draw || regOk tbl ops)

/-- The slots that a text looks at. -/
def slotsOp (ops : Array Oper) (o : Oper) : List Nat := looks ops o
def slotsC : Code → List Nat
  | .region _ ops _ => ops.toList.flatMap (slotsOp ops)
  | .seq a b => slotsC a ++ slotsC b
  | .cond v t e => (match v with | .tmp t => [t] | _ => []) ++ (slotsC t ++ slotsC e)
  | .block _ c => slotsC c
  | .loop c => slotsC c
  | _ => []

/-- The rounds of a loop over a function, one behind the other. -/
def roundsX (run : Code → AS → Option (Exit × AS)) (ps : List Nat) (as b : Code) (tm0 : List (Nat × AV)) : List (List AV) → List AObj → Option (Exit × List AObj)
  | [], ol => match noMaps ol with
    | true => some (.normal, ol)
    | false => none
  | x :: xs, ol => match noMaps ol with
    | true => match run as ⟨ps.zip x ++ tm0, ol⟩ with
      | some (.normal, σ1) => match noMaps σ1.objs with
        | true => match run b σ1 with
          | some (.normal, σ2) => roundsX run ps as b tm0 xs σ2.objs
          | some (e, σ2) => match noMaps σ2.objs with
            | true => some (e, σ2.objs)
            | false => none
          | none => none
        | false => none
      | _ => none
    | false => none

/-- The objects that some values come to. -/
def reachV (objs : List AObj) (vs : List AV) : List Nat := reachN objs objs.length (addL [] (idsL vs))

def rangeX (run : Code → AS → Option (Exit × AS)) (itx : Nat → List AV → List AObj → Option (List (List AV))) (g : Operand) (ps : List Nat) (as b : Code) (σ : AS) : Option (Exit × AS) :=
  match σ.eval g with
  | .fn (.func f) cap => match itx f cap σ.objs with
    | some xs =>
      match locOk σ.objs (reachV σ.objs ((slotsC as ++ slotsC b).map σ.get)) && (reachV σ.objs cap).all (fun id => !inL (reachV σ.objs ((slotsC as ++ slotsC b).map σ.get)) id) &&
          allIdL (inL (reachV σ.objs ((slotsC as ++ slotsC b).map σ.get))) ((slotsC as ++ slotsC b).map σ.get) && xs.all (fun x => x.length == ps.length && closedL x) && (nodupL ps && noRF as && noRF b) with
      | true => match roundsX run ps as b ((slotsC as ++ slotsC b).map fun t => (t, (σ.get t).ren (idx (reachV σ.objs ((slotsC as ++ slotsC b).map σ.get))))) xs
            (locO σ.objs (reachV σ.objs ((slotsC as ++ slotsC b).map σ.get))) with
        | some (e, ol) => some (e, ⟨σ.tmps, backO σ.objs (reachV σ.objs ((slotsC as ++ slotsC b).map σ.get)) ol⟩)
        | none => none
      | false => none
    | none => none
  | _ => none

/-- A text is run. The number is what is left to spend. -/
def execC (T : Nat → Option TY) (tbl : Tbl) (chk : Array Oper → Bool → Bool) (itx : Nat → List AV → List AObj → Option (List (List AV))) : Nat → Code → AS → Option (Exit × AS)
  | 0, _, _ => none
  | m + 1, c, σ => match c with
    | .skip => some (.normal, σ)
    | .label _ => some (.normal, σ)
    | .exit id => some (.exit id, σ)
    | .goto l => some (.goto l, σ)
    | .ret => some (.ret, σ)
    | .region id ops draw => match tbl.d id with
      | none => match chk ops draw with
        | true => stepsX T tbl ops ops.toList σ
        | false => none
      | some _ => none
    | .seq a b => match execC T tbl chk itx m a σ with
      | some (.normal, σ') => execC T tbl chk itx m b σ'
      | r => r
    | .cond v t e => match σ.eval v with
      | .d (.bool b) => match b with
        | true => execC T tbl chk itx m t σ
        | false => execC T tbl chk itx m e σ
      | _ => none
    | .block id c => match execC T tbl chk itx m c σ with
      | some (.exit id', σ') => match decide (id' = id) with
        | true => some (.normal, σ')
        | false => some (.exit id', σ')
      | r => r
    | .loop c => match execC T tbl chk itx m c σ with
      | some (.normal, σ') => execC T tbl chk itx m (.loop c) σ'
      | r => r
    | .rangeFunc g ps as b => match chk (ps.map fun p => ({ (default : Oper) with dst := some p, guard := none } : Oper)) false with
      | true => rangeX (execC T tbl chk itx m) itx g ps.toList as b σ
      | false => none
    | _ => none

section
variable {P : Program} {T : Nat → Option TY} {tbl : Tbl} (hT : TOk P T) (ht : TblOk P tbl) (hmix : P.follows .mixedOrders = true)
include hT ht hmix

theorem region_ok {Fe : Fence} {n : Nat} (hFe : Wide Fe) {F : Fr} {id : Nat} {ops : Array Oper} {draw : Bool} (hd : tbl.d id = none) (hok : codeOk tbl F.nt (.region id ops draw) = true) {Q : Exit → AS → Prop} {σ τ : AS} {ρ : Nat → Option (Nat × Nat)} {a : Act} {w : World}
    (hst : asteps T tbl ops ops.toList σ = some τ) (hK : Q .normal τ) (hr : Rel F ρ σ a w) : (Code.region id ops draw).wpIn Fe n P (postOf F Q) a w := by
  simp only [codeOk, Bool.and_eq_true, List.all_eq_true] at hok
  obtain ⟨hok1, hok2⟩ := hok
  simp only [hd] at hok2
  have hdst : ∀ (i : Nat) (o : Oper), ops[i]? = some o → ∀ t, o.dst = some t → t < F.nt := by
    intro i o ho t htt
    have := (hok1 o (by simpa using Array.mem_of_getElem? ho)).1
    rw [htt] at this
    simpa using this
  cases draw with
  | false =>
    refine wpIn_region ?_
    have key : ∀ (l : List Oper) (k : Nat), (∀ j, l[j]? = ops[k + j]?) → ∀ (σ : AS) (ρ : Nat → Option (Nat × Nat)) (a : Act) (w : World), asteps T tbl ops l σ = some τ → Rel F ρ σ a w →
        wpOpsIn Fe n P ops (postOf F Q) (List.range' k l.length) a w := by
      intro l
      induction l with
      | nil => intro k _ σ ρ a w hs hr; cases hs; exact ⟨τ, ρ, hK, hr⟩
      | cons o l ih =>
        intro k hl σ ρ a w hs hr
        have h0 : ops[k]? = some o := by simpa using (hl 0).symm
        simp only [asteps] at hs
        cases h1 : astep T tbl ops o σ with
        | none => rw [h1] at hs; cases hs
        | some σ1 =>
          rw [h1] at hs
          simp only [List.length_cons, List.range'_succ]
          rw [wpOpsIn_cons]
          exact astep_ok hT ht hFe hr h0 (hdst k o h0) h1 _ _ fun ρ' a' w' hr' =>
            ih (k + 1) (fun j => by have := hl (j + 1); simpa [Nat.add_assoc, Nat.add_comm 1 j] using this) σ1 ρ' a' w' hs hr'
    have := key ops.toList 0 (by simp) σ ρ a w hst hr
    rw [List.range_eq_range', ← Array.length_toList]
    exact this
  | true =>
    refine wpIn_region_any hmix ?_
    have hreg : regOk tbl ops = true := by simpa using hok2
    have hr' : Rel F ρ σ a { w with drawn := w.drawn + 1 } := hr.world ⟨rfl, rfl, rfl, Nat.le_refl _, fun _ _ _ => rfl, fun b c e f h => ⟨c, f, h, rfl⟩⟩
    have hleft : left ops (Array.replicate ops.size false) = ops.toList := by
      unfold left
      have : ∀ i ∈ List.range ops.size, (if (Array.replicate ops.size false).getD i true = true then none else ops[i]?) = ops[i]? := by
        intro i hi
        have := List.mem_range.1 hi
        simp [Array.getD_eq_getD_getElem?, this]
      rw [filterMap_congr' _ this]
      have key : ∀ (k m : Nat), k + m = ops.size → (List.range' k m).filterMap (fun i => ops[i]?) = ops.toList.drop k := by
        intro k m
        induction m generalizing k with
        | zero => intro h; simp; omega
        | succ m ih =>
          intro h
          have hk : k < ops.toList.length := by simp; omega
          rw [List.range'_succ, List.filterMap_cons, List.drop_eq_getElem_cons hk]
          have : ops[k]? = some ops.toList[k] := by simp [show k < ops.size by omega]
          rw [this]
          simp only [ih (k + 1) (by omega)]
      rw [List.range_eq_range', key 0 ops.size (by omega), List.drop_zero]
    refine any_ok hT ht hFe hreg hdst (Q := postOf F Q) (τ := τ) (fun ρ' a' w' h => ⟨τ, ρ', hK, h⟩) ops.size _ σ ρ a _ (by simp) ?_ ?_ ?_ hr'
    · intro i j hi hl _
      simp [Array.getD_eq_getD_getElem?, hi] at hl
    · rw [hleft]; simp
    · rw [hleft]; exact ⟨τ, hst, .refl τ⟩

/-- An iterator keeps its contract: what it hands over, in which order; what it wants to find as it was. -/
structure ItX (P : Program) (f : Nat) (cap : List AV) (objs : List AObj) (xs : List (List AV)) : Prop where
  enters : ∀ args w, (callFunc f args).run P w = .ok (.enter f args) w
  seq : ∀ (Fe : Fence) (n : Nat) (F : Fr) (ρ : Nat → Option (Nat × Nat)) (w : World) (lb : Array Value), Wide Fe → Fe.round = none → 2 ≤ n → RelH F ρ objs w → lb.size = cap.length →
    (∀ i, i < cap.length → RelV w (Wrt F ρ objs) ρ objs (cap.getD i .undef) (lb.getD i undef)) →
    ∃ (ev : List (Array Value)) (K : Addr → Value → Prop), ev.length = xs.length ∧
      (∀ j, j < xs.length → (ev.getD j #[]).size = (xs.getD j []).length ∧ ∀ i, i < (xs.getD j []).length → RelV w (Wrt F ρ objs) ρ objs ((xs.getD j []).getD i .undef) ((ev.getD j #[]).getD i undef)) ∧
      (∀ a v, K a v → w.cell? a = some v ∧ (¬ Wrt F ρ objs a.block ∨ ∃ id o δ, id ∈ reachV objs cap ∧ objs[id]? = some o ∧ ρ id = some (a.block, δ))) ∧
      SeqX Fe n P f lb ev (fun A B => ∀ a v, K a v → A.cell? a = some v → B.cell? a = some v) w

omit hT ht hmix in
theorem roundsX_noMaps {run : Code → AS → Option (Exit × AS)} {ps : List Nat} {as b : Code} {tm0 : List (Nat × AV)} : ∀ {xs : List (List AV)} {ol : List AObj} {r : Exit × List AObj}, roundsX run ps as b tm0 xs ol = some r → noMaps ol = true ∧ noMaps r.2 = true
  | [], ol, r, h => by
    simp only [roundsX] at h
    split at h
    · rename_i hn; cases h; exact ⟨hn, hn⟩
    · cases h
  | x :: xs, ol, r, h => by
    simp only [roundsX] at h
    split at h
    · rename_i hn
      refine ⟨hn, ?_⟩
      split at h
      · split at h
        · split at h
          · exact (roundsX_noMaps h).2
          · split at h
            · rename_i h2; cases h; exact h2
            · cases h
          · cases h
        · cases h
      · cases h
    · cases h

omit hT ht hmix in
theorem look_slots (f : Nat → AV) (t : Nat) : ∀ (l : List Nat), look (l.map fun t => (t, f t)) t = if t ∈ l then f t else .undef
  | [] => by simp [look]
  | s :: l => by
    simp only [List.map_cons, look, look_slots f t l]
    by_cases h : s = t
    · subst h; simp
    · simp [h, Ne.symm h]

omit hT ht hmix in
theorem look_zip {l : List (Nat × AV)} {t : Nat} : ∀ {ps : List Nat} {x : List AV}, x.length = ps.length → look (ps.zip x ++ l) t = if t ∈ ps then x.getD (idx ps t) .undef else look l t
  | [], x, _ => by simp
  | p :: ps, [], h => by simp at h
  | p :: ps, v :: x, h => by
    simp only [List.zip_cons_cons, List.cons_append, look, idx]
    by_cases e : p = t
    · simp [e]
    · rw [if_neg e, if_neg e, look_zip (by simpa using h)]
      simp [Ne.symm e]

omit hT ht hmix in
theorem fold_size : ∀ (l : List (Nat × Value)) (A : Array Value), (l.foldl (fun t (p : Nat × Value) => t.setIfInBounds p.1 p.2) A).size = A.size
  | [], A => rfl
  | p :: l, A => by simp [fold_size l]

omit hT ht hmix in
theorem fold_get {t : Nat} : ∀ (ps : List Nat) (e : List Value) (A : Array Value), e.length = ps.length → nodupL ps = true → (∀ p ∈ ps, p < A.size) →
    ((ps.zip e).foldl (fun t (p : Nat × Value) => t.setIfInBounds p.1 p.2) A).getD t undef = if t ∈ ps then e.getD (idx ps t) undef else A.getD t undef
  | [], e, A, _, _, _ => by simp
  | p :: ps, [], A, h, _, _ => by simp at h
  | p :: ps, v :: e, A, h, hn, hp => by
    simp only [nodupL, Bool.and_eq_true, Bool.not_eq_true'] at hn
    simp only [List.zip_cons_cons, List.foldl_cons]
    rw [fold_get ps e _ (by simpa using h) hn.2 (fun q hq => by rw [Array.size_setIfInBounds]; exact hp q (List.mem_cons_of_mem _ hq))]
    have hpn : p ∉ ps := fun hm => by rw [inL_iff.2 hm] at hn; cases hn.1
    simp only [idx]
    by_cases e1 : p = t
    · subst e1
      rw [if_neg hpn, if_pos (List.mem_cons_self ..), if_pos rfl]
      have := hp p (List.mem_cons_self ..)
      simp [Array.getD_eq_getD_getElem?, this]
    · rw [if_neg e1]
      by_cases e2 : t ∈ ps
      · simp [e2]
      · simp [e2, Ne.symm e1, Array.getD_eq_getD_getElem?, Array.getElem?_setIfInBounds_ne e1]

omit hT ht hmix in
theorem rangeX_ok {run : Code → AS → Option (Exit × AS)} {itx : Nat → List AV → List AObj → Option (List (List AV))} {nt : Nat}
    (hrun : ∀ (c : Code) {Fe : Fence} {n : Nat} (_ : Wide Fe) {F : Fr} {σ : AS} {ρ : Nat → Option (Nat × Nat)} {a : Act} {w : World} {r : Exit × AS}, noRF c = true → F.nt = nt → run c σ = some r → Rel F ρ σ a w → c.wpIn Fe n P (postOf F fun e τ => e = r.1 ∧ τ = r.2) a w)
    (hit : ∀ f cap objs xs, itx f cap objs = some xs → ItX P f cap objs xs)
    {Fe : Fence} {n : Nat} (hFe : Wide Fe) (hro : Fe.round = none) (hn : 4 ≤ n) {F : Fr} {σ : AS} {ρ : Nat → Option (Nat × Nat)} {a : Act} {w : World} {r : Exit × AS} (hF : F.nt = nt) (hr : Rel F ρ σ a w) {g : Operand} {ps : Array Nat} {as b : Code}
    (hpn : ∀ p ∈ ps.toList, p < nt) (h : rangeX run itx g ps.toList as b σ = some r) : (Code.rangeFunc g ps as b).wpIn Fe n P (postOf F fun e τ => e = r.1 ∧ τ = r.2) a w := by
  unfold rangeX at h
  split at h
  · rename_i f cap hg
    split at h
    · rename_i xs hxs
      split at h
      · rename_i hc
        simp only [Bool.and_eq_true, List.all_eq_true, Bool.not_eq_true', beq_iff_eq] at hc
        obtain ⟨⟨⟨⟨hl, hdis⟩, hid⟩, hcl⟩, ⟨hnd, hra⟩, hrb⟩ := hc
        split at h
        · rename_i e ol hrs
          cases h
          have hit' := hit f cap σ.objs xs hxs
          have hv := eval_ok hr g
          rw [hg] at hv
          obtain ⟨lb, hlb, hsz, hcap⟩ : ∃ lb : Array Value, a.eval g = .func (.func f) #[] lb ∧ cap.length = lb.size ∧ ∀ i, i < cap.length → RelV w (Wrt F ρ σ.objs) ρ σ.objs (cap.getD i .undef) (lb.getD i undef) := by
            generalize a.eval g = gv at hv
            cases hv with
            | fn _ _ vs hl hc => exact ⟨vs, rfl, hl, hc⟩
          obtain ⟨hE, hWE⟩ := RelH.enter hl hr.hp
          obtain ⟨ev, K, hel, hev, hK, hseq⟩ := hit'.seq Fe (n - 1) F ρ w lb hFe hro (by omega) hr.hp hsz.symm hcap
          generalize hLdef : reachV σ.objs ((slotsC as ++ slotsC b).map σ.get) = L at *
          generalize hSdef : slotsC as ++ slotsC b = sl at *
          let C : Fr := { callF F ρ σ.objs L w with nt := F.nt }
          have toC : ∀ {ρl : Nat → Option (Nat × Nat)} {ol : List AObj} {W : World}, RelH (callF F ρ σ.objs L w) ρl ol W → RelH C ρl ol W := fun h => ⟨h.ob, h.inj, h.own, h.am, h.frm, h.ext⟩
          have ofC : ∀ {ρl : Nat → Option (Nat × Nat)} {ol : List AObj} {W : World}, RelH C ρl ol W → RelH (callF F ρ σ.objs L w) ρl ol W := fun h => ⟨h.ob, h.inj, h.own, h.am, h.frm, h.ext⟩
          have hEC := toC hE
          have hCw : C.w0 = w := rfl
          have stay : ∀ {ρl : Nat → Option (Nat × Nat)} {ol : List AObj} {W : World}, RelH C ρl ol W → ∀ {x : AV} {v : Value}, RelV w (Wrt C (locR ρ L) (locO σ.objs L)) (locR ρ L) (locO σ.objs L) x v → RelV W (Wrt C ρl ol) ρl ol x v := by
            intro ρl ol W hH x v hx
            refine hx.stay (hH.frm.mono fun b _ hb => ?_) (fun b hb hn hw => ?_) hH.ext
            · obtain ⟨id, δ, h1, h2⟩ := hb
              obtain ⟨o, _, _, h3⟩ := locOk_spec hl h1
              exact .inr ⟨_, _, δ, h3, by simp [locR, idx_get h1, h2]⟩
            · rcases hw with hA | ⟨id, o, δ, ho, hρ⟩
              · exact hn (.inl hA)
              · rcases (hH.own id o b δ ho hρ).2 with ⟨id', δ', h1, h2⟩ | h1
                · obtain ⟨o', _, _, h3⟩ := locOk_spec hl h1
                  exact hn (.inr ⟨_, _, δ', h3, by simp [locR, idx_get h1, h2]⟩)
                · exact absurd hb (Nat.not_lt.2 h1)
          have hKw : ∀ {ρl : Nat → Option (Nat × Nat)} {ol : List AObj} {W : World}, RelH C ρl ol W → ∀ ad v, K ad v → W.cell? ad = some v := by
            intro ρl ol W hH ad v hk
            obtain ⟨h1, h2⟩ := hK ad v hk
            refine (cell_congr (hH.frm.same ad.block (cell_lt h1) ?_)).trans h1
            rintro ⟨id, δ, hid', hρ⟩
            obtain ⟨o, ho, _, _⟩ := locOk_spec hl hid'
            rcases h2 with h2 | ⟨id2, o2, δ2, h3, h4, h5⟩
            · exact h2 (.inr ⟨id, o, δ, ho, hρ⟩)
            · have := hr.hp.inj id id2 o o2 _ δ δ2 ho h4 hρ h5
              subst this
              have := hdis id h3
              rw [inL_iff.2 hid'] at this
              cases this
          have hnm := roundsX_noMaps hrs
          let I : Nat → World → Prop := fun j W => ∃ ol' ρl, roundsX run ps.toList as b (sl.map fun t => (t, (σ.get t).ren (idx L))) (xs.drop j) ol' = some (e, ol) ∧ RelH C ρl ol' W ∧ noMaps ol' = true
          let Ix : Code → World → Prop := fun c W => ∃ ρl, toCode e = some c ∧ RelH C ρl ol W ∧ noMaps ol = true
          have behind : ∀ {ρl : Nat → Option (Nat × Nat)} {D : Nat} {W : World}, RelH C ρl ol W → w.heap.size ≤ D → W.heap[D]? = some (.deferred (some [])) →
              ∃ ρ', Rel F ρ' ⟨σ.tmps, backO σ.objs L ol⟩ { a with defers := { target := .collected D, args := #[] } :: a.defers } W := by
            intro ρl D W hH hD hW
            obtain ⟨h1, h2, h3, h4, _⟩ := RelH.back hl hr.hp (ofC hH)
            refine ⟨_, hr.nt, ?_, fun t => (hr.tm t).stay h2 h4 h3, h1⟩
            have hst := hr.ds.stay hr.hp h2
            obtain ⟨Ds, d1, d2, d3⟩ := hr.ds.are
            obtain ⟨Ds', d1', d2', d3'⟩ := hst.are
            have hEq : Ds' = Ds := by
              have := d1.symm.trans d1'
              have := List.append_cancel_right this
              have inj : ∀ (x y : List Nat), x.map (fun D => ({ target := .collected D, args := #[] } : Deferred)) = y.map (fun D => ({ target := .collected D, args := #[] } : Deferred)) → x = y := by
                intro x
                induction x with
                | nil => intro y h; cases y with
                  | nil => rfl
                  | cons => simp at h
                | cons p x ih => intro y h; cases y with
                  | nil => simp at h
                  | cons q y => simp only [List.map_cons, List.cons.injEq] at h; obtain ⟨h1, h2⟩ := h; injection h1 with h1 _; injection h1 with h1; rw [h1, ih y h2]
              exact (inj _ _ this).symm
            subst hEq
            refine ⟨D :: Ds', by show _ :: a.defers = _; rw [d1']; rfl, List.nodup_cons.2 ⟨fun hm => ?_, d2'⟩, fun D' hD' => ?_⟩
            · have := heap_lt (d3 D hm).2; omega
            · rcases List.mem_cons.1 hD' with rfl | hm
              · exact ⟨Nat.le_trans hr.hp.frm.size hD, hW⟩
              · exact d3' D' hm
          refine wpIn_rangeX hro (by omega) hlb (hFe.fn f) hit'.enters hseq (fun h k ad v hk hA => k ad v hk (h ad v hk hA)) (fun W l o o' _ hl' ho ad v _ hA => kpC_b W l o o' hl' ho hA) (fun j hj => ?_) I Ix ?_ ?_ ⟨_, _, by rw [List.drop_zero]; exact hrs, hEC, hnm.1⟩ ?_ ?_ ?_
          · have hj' : j < xs.length := by omega
            have h1 := (hev j hj').1
            have h2 := (hcl (xs.getD j []) (by simp [List.getD_eq_getElem?_getD, hj'])).1
            rw [h1, h2]; simp
          · rintro j W W' row ⟨ol', ρl, h1, h2, h3⟩ hgr hrow
            exact ⟨ol', ρl, h1, h2.turn (turned_of_grown hgr hrow) (Nat.le_refl _) (.inl h3), h3⟩
          · rintro c W W' row ⟨ρl, h1, h2, h3⟩ hgr hrow
            exact ⟨ρl, h1, h2.turn (turned_of_grown hgr hrow) (Nat.le_refl _) (.inl h3), h3⟩
          · -- a round
            rintro l j W rec hB hj ⟨ol', ρl, h1, h2, h3⟩ hrec
            have hj' : j < xs.length := by omega
            rw [List.drop_eq_getElem_cons hj'] at h1
            simp only [roundsX, h3] at h1
            split at h1
            · rename_i σ1 hx1
              split at h1
              · rename_i hm1
                have hF1 : (roundF C ρl ol' W).nt = nt := hF
                have hxcl : (xs[j]).length = ps.toList.length ∧ closedL (xs[j]) = true := hcl _ (List.getElem_mem hj')
                have hgx : xs.getD j [] = xs[j] := by simp [List.getD_eq_getElem?_getD, hj']
                have hev' := hev j hj'
                rw [hgx] at hev'
                have hstart : Rel (roundF C ρl ol' W) ρl ⟨ps.toList.zip xs[j] ++ sl.map fun t => (t, (σ.get t).ren (idx L)), ol'⟩ { tmps := (ps.zip (ev.getD j #[])).foldl (fun t (p, v) => t.setIfInBounds p v) a.tmps, defers := [] } W := by
                  have hfold : (ps.zip (ev.getD j #[])).foldl (fun t (p, v) => t.setIfInBounds p v) a.tmps = (ps.toList.zip (ev.getD j #[]).toList).foldl (fun t (p : Nat × Value) => t.setIfInBounds p.1 p.2) a.tmps := by
                    rw [← Array.foldl_toList, Array.toList_zip]
                  have hel2 : (ev.getD j #[]).toList.length = ps.toList.length := by simp only [Array.length_toList]; rw [hev'.1, hxcl.1]; simp
                  have hpa : ∀ p ∈ ps.toList, p < a.tmps.size := fun p hp => by rw [hr.nt, hF]; exact hpn p hp
                  refine ⟨?_, Marks.nil rfl, fun t => ?_, h2.base⟩
                  · have : ((ps.zip (ev.getD j #[])).foldl (fun t (p, v) => t.setIfInBounds p v) a.tmps).size = F.nt := by rw [hfold, fold_size, hr.nt]
                    exact this
                  · show RelV W _ ρl ol' (look _ t) (Array.getD (Array.foldl _ _ _) t undef)
                    rw [hfold, fold_get _ _ _ hel2 hnd hpa, look_zip hxcl.1]
                    have base : ∀ {x : AV} {v : Value}, RelV W (Wrt C ρl ol') ρl ol' x v → RelV W (Wrt (roundF C ρl ol' W) ρl ol') ρl ol' x v := fun h => h
                    by_cases htp : t ∈ ps.toList
                    · rw [if_pos htp, if_pos htp]
                      have hix : idx ps.toList t < xs[j].length := by
                        rw [hxcl.1]
                        exact (List.getElem?_eq_some_iff.1 (idx_get htp)).1
                      have h5 := hev'.2 _ hix
                      have h6 : (ev.getD j #[]).getD (idx ps.toList t) undef = (ev.getD j #[]).toList.getD (idx ps.toList t) undef := by
                        simp [Array.getD_eq_getD_getElem?, List.getD_eq_getElem?_getD]
                      rw [h6] at h5
                      exact base (stay h2 (h5.lift (closed_get hxcl.2 hix) fun b _ hn hw => hn (hWE b hw)))
                    · rw [if_neg htp, if_neg htp, look_slots]
                      by_cases hts : t ∈ sl
                      · rw [if_pos hts]
                        obtain ⟨i, hi, hie⟩ := List.mem_iff_getElem.1 hts
                        have h7 : (σ.get t).allId (inL L) = true := by
                          have h8 := allIdL_getD hid i
                          have : (sl.map σ.get).getD i .undef = σ.get t := by simp [List.getD_eq_getElem?_getD, hi, hie]
                          rwa [this] at h8
                        exact base (stay h2 ((hr.tm t).loc hl h7 fun b _ hn hw => hn (hWE b hw)))
                      · rw [if_neg hts]
                        exact .undef _
                refine wpIn_mono (hrun as (hFe.inRound l) hra hF1 hx1 hstart) ?_
                intro e1 a1 W1 hp1
                cases e1 <;> first | (exact hp1.elim) | skip
                all_goals
                  obtain ⟨τ, ρ1, ⟨he1, het1⟩, hr1⟩ := hp1
                  cases he1
                have het1 : τ = σ1 := het1
                rw [het1] at hr1
                have hk1 : KeepsFrom w.heap.size W W1 := ⟨hr1.hp.frm.size, fun k o _ hk ho => h2.round_keeps hr1.hp hk ho (.inl h3)⟩
                refine ⟨hk1, fun r' => ?_⟩
                have hl1 := hk1.same l _ hB hrec rfl
                have hH1 := h2.unbase hr1.hp
                have ht2 : Turned w.heap.size W1 (W1.putObj l (.loop r')) := turned_put hB hl1 (by intro c e f h; cases h)
                have hms : MapsStay W1 (W1.putObj l (.loop r')) := stay_put hl1 (by intro e k h; cases h)
                have hH2 : RelH C ρ1 σ1.objs (W1.putObj l (.loop r')) := hH1.turn ht2 (Nat.le_refl _) (.inr hms)
                let R1 : Fr := { roundF C ρ1 σ1.objs (W1.putObj l (.loop r')) with ds := a1.defers }
                have hb2 := hH2.base
                have hr2 : Rel R1 ρ1 σ1 a1 (W1.putObj l (.loop r')) :=
                  ⟨hr1.nt, ⟨[], rfl, List.nodup_nil, fun _ h => by cases h⟩, fun t => (hr1.tm t).turn ht2, ⟨hb2.ob, hb2.inj, hb2.own, hb2.am, hb2.frm, hb2.ext⟩⟩
                have fin : ∀ {σ2 : AS} {ρ2 : Nat → Option (Nat × Nat)} {a3 : Act} {W3 : World}, Rel R1 ρ2 σ2 a3 W3 → KeepsFrom w.heap.size (W1.putObj l (.loop r')) W3 ∧ RelH C ρ2 σ2.objs W3 := by
                  intro σ2 ρ2 a3 W3 h
                  have hh : RelH (roundF C ρ1 σ1.objs (W1.putObj l (.loop r'))) ρ2 σ2.objs W3 := ⟨h.hp.ob, h.hp.inj, h.hp.own, h.hp.am, h.hp.frm, h.hp.ext⟩
                  exact ⟨⟨hh.frm.size, fun k o _ hk ho => hH2.round_keeps hh hk ho (.inl hm1)⟩, hH2.unbase hh⟩
                have hF2 : R1.nt = nt := hF
                split at h1
                · rename_i σ2 hx2
                  refine wpIn_mono (hrun b (hFe.inRound l) hrb hF2 hx2 hr2) ?_
                  intro e3 a3 W3 hp3
                  cases e3 <;> first | (exact hp3.elim) | skip
                  all_goals
                    obtain ⟨τ2, ρ2, ⟨he3, het3⟩, hr3⟩ := hp3
                    cases he3
                  have het3 : τ2 = σ2 := het3
                  rw [het3] at hr3
                  obtain ⟨k1, k2⟩ := fin hr3
                  exact ⟨k1, fun ad v hk _ => hKw k2 ad v hk, _, ρ2, h1, k2, (roundsX_noMaps h1).1⟩
                · rename_i e2 σ2 hne hx2
                  split at h1
                  · rename_i hm2
                    cases h1
                    refine wpIn_mono (hrun b (hFe.inRound l) hrb hF2 hx2 hr2) ?_
                    intro e3 a3 W3 hp3
                    cases e3 <;> first | (exact hp3.elim) | skip
                    all_goals
                      obtain ⟨τ2, ρ2, ⟨he3, het3⟩, hr3⟩ := hp3
                      have het3 : τ2 = σ2 := het3
                      rw [het3] at hr3
                      simp only at he3
                      subst he3
                      obtain ⟨k1, k2⟩ := fin hr3
                    · exact (hne rfl).elim
                    · exact ⟨k1, ρ2, rfl, k2, hm2⟩
                    · exact ⟨k1, ρ2, rfl, k2, hm2⟩
                    · exact ⟨k1, ρ2, rfl, k2, hm2⟩
                  · cases h1
                · cases h1
              · cases h1
            · cases h1
          · rintro D W hD ⟨ol', ρl, h1, h2, h3⟩ hW
            rw [hel, List.drop_length] at h1
            simp only [roundsX, h3] at h1
            cases h1
            obtain ⟨ρ', hrel⟩ := behind h2 hD hW
            exact ⟨_, ρ', ⟨rfl, rfl⟩, hrel⟩
          · rintro D c W hD ⟨ρl, hc, h2, h3⟩ hW
            obtain ⟨ρ', hrel⟩ := behind h2 hD hW
            cases e <;> cases hc
            · refine wpIn_exit ?_
              exact ⟨_, ρ', ⟨rfl, rfl⟩, hrel⟩
            · refine wpIn_goto ?_
              exact ⟨_, ρ', ⟨rfl, rfl⟩, hrel⟩
            · refine wpIn_ret ?_
              exact ⟨_, ρ', ⟨rfl, rfl⟩, hrel⟩
        · cases h
      · cases h
    · cases h
  · cases h

theorem execC_ok {chk : Array Oper → Bool → Bool} {nt : Nat} (hchk : ∀ ops draw, chk ops draw = true → regChk tbl nt ops draw = true) {itx : Nat → List AV → List AObj → Option (List (List AV))} (hit : ∀ f cap objs xs, itx f cap objs = some xs → ItX P f cap objs xs) :
    ∀ (m : Nat) (c : Code) {Fe : Fence} {n : Nat} (_ : Wide Fe) (_ : noRF c = true ∨ (Fe.round = none ∧ 4 ≤ n)) {F : Fr} {σ : AS} {ρ : Nat → Option (Nat × Nat)} {a : Act} {w : World} {r : Exit × AS}, F.nt = nt → execC T tbl chk itx m c σ = some r → Rel F ρ σ a w →
    c.wpIn Fe n P (postOf F fun e τ => e = r.1 ∧ τ = r.2) a w := by
  intro m
  induction m using Nat.strongRecOn with
  | _ m ih0 =>
  cases m with
  | zero => intro c Fe n hFe hrf F σ ρ a w r hok h hr; cases h
  | succ m =>
    have ih := fun {q : Nat} (hq : q ≤ m) => ih0 q (Nat.lt_succ_of_le hq)
    clear ih0
    intro c Fe n hFe hrf F σ ρ a w r hok h hr
    cases c <;> simp only [execC] at h <;> first | (cases h; done) | skip
    case skip => cases h; exact wpIn_skip ⟨σ, ρ, ⟨rfl, rfl⟩, hr⟩
    case label l => cases h; exact wpIn_label ⟨σ, ρ, ⟨rfl, rfl⟩, hr⟩
    case exit id => cases h; exact wpIn_exit ⟨σ, ρ, ⟨rfl, rfl⟩, hr⟩
    case goto l => cases h; exact wpIn_goto ⟨σ, ρ, ⟨rfl, rfl⟩, hr⟩
    case ret => cases h; exact wpIn_ret ⟨σ, ρ, ⟨rfl, rfl⟩, hr⟩
    case region id ops draw =>
      split at h
      · rename_i hd
        split at h
        · rename_i hc
          obtain ⟨h1, h2⟩ := stepsX_ok _ h
          have hc := hchk _ _ hc
          subst hok
          exact region_ok hT ht hmix hFe hd (by simp only [codeOk, hd]; exact hc) h2 ⟨h1.symm, rfl⟩ hr
        · cases h
      · cases h
    case seq x y =>
      split at h
      · rename_i σ' hx
        refine wpIn_seq (wpIn_mono (ih (Nat.le_refl m) x hFe (noRF_l hrf) hok hx hr) ?_)
        intro e a' w' hp
        cases e <;> first | (obtain ⟨τ, ρ', ⟨h1, rfl⟩, hr'⟩ := hp; first | (cases h1; done) | exact ih (Nat.le_refl m) y hFe (noRF_r hrf) hok h hr') | exact hp.elim
      · rename_i hne
        refine wpIn_seq (wpIn_mono (ih (Nat.le_refl m) x hFe (noRF_l hrf) hok h hr) ?_)
        intro e a' w' hp
        cases e <;> first | exact hp | skip
        obtain ⟨τ, ρ', ⟨h1, rfl⟩, hr'⟩ := hp
        obtain ⟨r1, r2⟩ := r
        simp only at h1
        subst h1
        exact absurd h (hne r2)
    case cond v x y =>
      split at h
      · rename_i b hc
        have hv := eval_ok hr v
        rw [hc] at hv
        refine wpIn_cond (relD_bool hv) ?_
        cases b
        · exact ih (Nat.le_refl m) y hFe (noRF_r hrf) hok h hr
        · exact ih (Nat.le_refl m) x hFe (noRF_l hrf) hok h hr
      · cases h
    case block id c =>
      refine wpIn_block ?_
      split at h
      · rename_i id' σ' hx
        refine wpIn_mono (ih (Nat.le_refl m) c hFe hrf hok hx hr) ?_
        intro e a' w' hp
        cases e <;> first | (exact hp.elim) | skip
        all_goals
          obtain ⟨τ, ρ', ⟨h1, rfl⟩, hr'⟩ := hp
          cases h1
        simp only [Exit.inBlock]
        split at h
        · rename_i hd
          cases h
          rw [if_pos (of_decide_eq_true hd)]
          exact ⟨_, ρ', ⟨rfl, rfl⟩, hr'⟩
        · rename_i hd
          cases h
          rw [if_neg (of_decide_eq_false hd)]
          exact ⟨_, ρ', ⟨rfl, rfl⟩, hr'⟩
      · rename_i hne
        refine wpIn_mono (ih (Nat.le_refl m) c hFe hrf hok h hr) ?_
        intro e a' w' hp
        cases e with
        | exit id' =>
          obtain ⟨τ, ρ', ⟨h1, rfl⟩, hr'⟩ := hp
          obtain ⟨r1, r2⟩ := r
          simp only at h1
          subst h1
          exact absurd h (hne id' r2)
        | _ => exact hp
    case rangeFunc g ps as b =>
      split at h
      · rename_i hc
        have hq := hrf.resolve_left (by simp [noRF])
        refine rangeX_ok (fun c {Fe} {n} hFe {F} {σ} {ρ} {a} {w} {r} hno hF hx hr => ih (Nat.le_refl m) c hFe (.inl hno) hF hx hr) hit hFe hq.1 hq.2 hok hr (fun p hp => ?_) h
        have h1 := hchk _ _ hc
        simp only [regChk, Bool.and_eq_true, List.all_eq_true] at h1
        have h2 := (h1.1 ({ (default : Oper) with dst := some p, guard := none } : Oper) (by
          rw [Array.toList_map]
          exact List.mem_map.2 ⟨p, hp, rfl⟩)).1
        exact of_decide_eq_true h2
      · cases h
    case loop c =>
      let J : Act → World → Nat → Prop := fun a w k => ∃ σ ρ, execC T tbl chk itx k (.loop c) σ = some r ∧ Rel F ρ σ a w ∧ k ≤ m + 1
      let μ : Act → World → Nat := fun a w => open Classical in if h : ∃ k, J a w k then Classical.choose (least h) else 0
      have hμ : ∀ a w k, J a w k → J a w (μ a w) ∧ μ a w ≤ k := by
        intro a w k hk
        have hex : ∃ k, J a w k := ⟨k, hk⟩
        simp only [μ, dif_pos hex]
        obtain ⟨h1, h2⟩ := Classical.choose_spec (least hex)
        exact ⟨h1, h2 k hk⟩
      have h0 : execC T tbl chk itx (m + 1) (.loop c) σ = some r := by simp only [execC]; exact h
      refine wpIn_loop (fun a w => ∃ k, J a w k) μ ⟨m + 1, σ, ρ, h0, hr, Nat.le_refl _⟩ ?_
      rintro a w ⟨k, hk⟩
      obtain ⟨⟨σ1, ρ1, h1, hr1, hle⟩, _⟩ := hμ a w k hk
      cases hm : μ a w with
      | zero => rw [hm] at h1; cases h1
      | succ q =>
        rw [hm] at h1 hle
        simp only [execC] at h1
        split at h1
        · rename_i σ2 hx
          refine wpIn_mono (ih (show q ≤ m by omega) c hFe hrf hok hx hr1) ?_
          intro e a' w' hp
          cases e <;> first | (exact hp.elim) | skip
          all_goals
            obtain ⟨τ, ρ', ⟨h3, rfl⟩, hr'⟩ := hp
            cases h3
          have hJ : J a' w' q := ⟨_, ρ', h1, hr', by omega⟩
          exact ⟨⟨q, hJ⟩, Nat.lt_of_le_of_lt (hμ a' w' q hJ).2 (by omega)⟩
        · rename_i hne
          refine wpIn_mono (ih (show q ≤ m by omega) c hFe hrf hok h1 hr1) ?_
          intro e a' w' hp
          cases e <;> first | exact hp | skip
          obtain ⟨τ, ρ', ⟨h3, rfl⟩, hr'⟩ := hp
          obtain ⟨r1, r2⟩ := r
          simp only at h3
          subst h3
          exact absurd h1 (hne r2)
end
end Go.AI
