/- A region whose order is drawn comes to what the text's order comes to. -/
import Derived.Test.YtnephacfnbcdeaaAiE
namespace Go.AI
set_option linter.unusedVariables false

section
variable {T : Nat → Option TY} {tbl : Tbl} {ops : Array Oper}

theorem build_pure {t len : Nat} {parts : Array (Nat × Operand)} (hk : opK tbl (.buildSlice t len parts) ≤ 1) (e : Env) (objs : List AObj) {r : AV × List AObj} (h : aDo T tbl (.buildSlice t len parts) e objs = some r) :
    r.2 = objs ∧ ∀ objs', aDo T tbl (.buildSlice t len parts) e objs' = some (r.1, objs') := by
  have hz : tbl.z t len = true := by
    cases hz : tbl.z t len with
    | true => rfl
    | false => simp [opK, hz] at hk
  simp only [aDo, hz] at h ⊢
  split at h
  · rename_i y hy
    split at h
    · rename_i z hz1 hz2
      split at h
      · rename_i rows hrows
        split at h
        · rename_i hy0
          cases h
          exact ⟨rfl, fun _ => rfl⟩
        · cases h
      · cases h
    · cases h
  · cases h

theorem aExec_reads {op : Op} (hk : opK tbl op ≤ 1) {e : Env} {objs : List AObj} {r : AV × List AObj} (h : aExec T tbl op e objs = some r) : r.2 = objs := by
  unfold aExec at h
  split at h
  · cases hv : aVal T tbl op e objs with
    | none => rw [hv] at h; cases h
    | some v => rw [hv] at h; cases h; rfl
  · rename_i hb
    cases op <;> first | (exact absurd ⟨hk, rfl⟩ hb) | skip
    exact (build_pure hk e objs h).1

theorem aVal_pure {op : Op} (hk : opK tbl op = 0) (e : Env) (objs objs' : List AObj) : aVal T tbl op e objs' = aVal T tbl op e objs := by
  cases op <;> simp only [aVal] <;> simp [opK] at hk

theorem aExec_pure {op : Op} (hk : opK tbl op = 0) {e : Env} {objs objs' : List AObj} {r : AV × List AObj} (h : aExec T tbl op e objs = some r) : r.2 = objs ∧ aExec T tbl op e objs' = some (r.1, objs') := by
  refine ⟨aExec_reads (by omega) h, ?_⟩
  unfold aExec at h ⊢
  split at h
  · rename_i hb
    rw [if_pos hb]
    rw [aVal_pure hk e objs objs']
    cases hv : aVal T tbl op e objs with
    | none => rw [hv] at h; cases h
    | some v => rw [hv] at h; cases h; rfl
  · rename_i hb
    rw [if_neg hb]
    cases op <;> first | (exact absurd ⟨by omega, rfl⟩ hb) | skip
    exact (build_pure (by omega) e objs h).2 objs'

theorem bound_congr {e e' : Env} {x : Option Operand} (h : ∀ o, x = some o → e o = e' o) (d : Int) : boundA e d x = boundA e' d x := by
  cases x with
  | none => rfl
  | some o => simp only [boundA, h o rfl]

theorem buildA_congr {e e' : Env} (pl : Nat → Option (Nat × TY)) : ∀ (l : List (Nat × Operand)) (cells : List AV), (∀ p ∈ l, e p.2 = e' p.2) → buildA pl e l cells = buildA pl e' l cells := by
  intro l
  induction l with
  | nil => intro cells _; rfl
  | cons p l ih =>
    obtain ⟨i, x⟩ := p
    intro cells h
    have hx : e x = e' x := h (i, x) (List.mem_cons_self ..)
    have ih' := fun cells => ih cells fun q hq => h q (List.mem_cons_of_mem _ hq)
    simp only [buildA, hx, ih']

theorem aVal_congr {op : Op} {e e' : Env} (h : ∀ x ∈ op.operands, e x = e' x) (objs : List AObj) : aVal T tbl op e objs = aVal T tbl op e' objs := by
  cases op <;> simp only [aVal]
  case move x => rw [h x (by simp [Op.operands])]
  case assign x => rw [h x (by simp [Op.operands])]
  case pick c x y => rw [h c (by simp [Op.operands]), h x (by simp [Op.operands]), h y (by simp [Op.operands])]
  case binOp op t x y yt => rw [h x (by simp [Op.operands]), h y (by simp [Op.operands])]
  case unOp op t x => rw [h x (by simp [Op.operands])]
  case convert s d x => rw [h x (by simp [Op.operands])]
  case extract x i => rw [h x (by simp [Op.operands])]
  case nilCheck x => rw [h x (by simp [Op.operands])]
  case makeFunc f a c =>
    have h2 : c.toList.map e = c.toList.map e' := List.map_congr_left fun x hx => h x (by simp only [Op.operands]; simpa using Or.inr hx)
    rw [h2]
  case build t parts =>
    have hp : ∀ p ∈ parts.toList, e p.2 = e' p.2 := fun p hp => h p.2 (by
      simp only [Op.operands, List.mem_toArray, List.mem_map]
      exact ⟨p, hp, rfl⟩)
    simp only [buildA_congr _ _ _ hp]
  case field t x f => rw [h x (by simp [Op.operands])]
  case index t x i => rw [h x (by simp [Op.operands]), h i (by simp [Op.operands])]
  case fieldAddr t x f => rw [h x (by simp [Op.operands])]
  case indexAddr t x i => rw [h x (by simp [Op.operands]), h i (by simp [Op.operands])]
  case load t x => rw [h x (by simp [Op.operands])]
  case slice t x lo hi mx =>
    rw [h x (by simp [Op.operands]), bound_congr (e := e) (e' := e') (x := lo) (fun o ho => h o (by subst ho; simp [Op.operands]))]
    cases mx <;> try rfl
    cases lenA (e' x) <;> try rfl
    simp only
    rw [bound_congr (e := e) (e' := e') (x := hi) (fun o ho => h o (by subst ho; simp [Op.operands]))]
  case call c =>
    have h2 : c.args.toList.map e = c.args.toList.map e' := List.map_congr_left fun x hx => h x (by simp only [Op.operands, Call.operands]; simpa using Or.inr hx)
    cases hc : c.callee with
    | value f =>
      have h1 : e f = e' f := h f (by simp [Op.operands, Call.operands, hc])
      simp only [h1, h2]
    | invoke r m => rfl
    | builtin b =>
      cases b <;> (try rfl) <;> (try simp only [h2])
      case len =>
        cases hl : c.args.toList with
        | nil => rfl
        | cons x l =>
          have h1 : e x = e' x := h x (by simp only [Op.operands, Call.operands, hc]; have : x ∈ c.args.toList := by rw [hl]; exact List.mem_cons_self ..
                                          simpa using this)
          cases l with
          | nil =>
            cases c.argTypes.toList with
            | nil => rfl
            | cons t m =>
              cases m with
              | nil => simp only [h1]
              | cons => rfl
          | cons y l => rfl

theorem fill_congr {e e' : Env} (y : TY) : ∀ (l : List (Nat × Operand)) (rows : List (List D)), (∀ p ∈ l, e p.2 = e' p.2) → fillA e y l rows = fillA e' y l rows := by
  intro l
  induction l with
  | nil => intro rows _; rfl
  | cons p l ih =>
    obtain ⟨i, x⟩ := p
    intro rows h
    have hx : e x = e' x := h (i, x) (List.mem_cons_self ..)
    have ih' := fun rows => ih rows fun q hq => h q (List.mem_cons_of_mem _ hq)
    simp only [fillA, hx, ih']

theorem aDo_congr {op : Op} {e e' : Env} (h : ∀ x ∈ op.operands, e x = e' x) (objs : List AObj) : aDo T tbl op e objs = aDo T tbl op e' objs := by
  cases op <;> simp only [aDo]
  case box el x => rw [h x (by simp [Op.operands])]
  case store t x y => rw [h x (by simp [Op.operands]), h y (by simp [Op.operands])]
  case buildSlice t len parts =>
    have hp : ∀ p ∈ parts.toList, e p.2 = e' p.2 := fun p hp => h p.2 (by
      simp only [Op.operands, List.mem_toArray, List.mem_map]
      exact ⟨p, hp, rfl⟩)
    simp only [fill_congr _ _ _ hp]
  case makeSlice t l c => rw [h l (by simp [Op.operands]), h c (by simp [Op.operands])]
  case call c =>
    cases hc : c.callee with
    | value f =>
      have h1 : e f = e' f := h f (by simp [Op.operands, Call.operands, hc])
      have h2 : c.args.toList.map e = c.args.toList.map e' := by
        refine List.map_congr_left fun x hx => h x ?_
        simp only [Op.operands, Call.operands, hc]
        simpa using Or.inr hx
      simp only [h1, h2]
    | invoke r m => rfl
    | builtin b =>
      have key : ∀ s x, c.args.toList = [s, x] → e s = e' s ∧ e x = e' x := by
        intro s x hl
        refine ⟨h s ?_, h x ?_⟩
        · simp only [Op.operands, Call.operands, hc]
          have : s ∈ c.args.toList := by rw [hl]; simp
          simpa using this
        · simp only [Op.operands, Call.operands, hc]
          have : x ∈ c.args.toList := by rw [hl]; simp
          simpa using this
      cases b <;> (try rfl)
      all_goals
        simp only
        split
        · rename_i s x t u hl _
          obtain ⟨h1, h2⟩ := key s x hl
          rw [h1, h2]
        · rfl

theorem aExec_congr {op : Op} {e e' : Env} (h : ∀ x ∈ op.operands, e x = e' x) (objs : List AObj) : aExec T tbl op e objs = aExec T tbl op e' objs := by
  unfold aExec
  rw [aVal_congr h, aDo_congr h]

theorem astep_eq (o : Oper) (σ : AS) : astep T tbl ops o σ = (astepR T tbl ops o σ).map (σ.res o.dst) := rfl

def looks (ops : Array Oper) (o : Oper) : List Nat :=
  (o.op.operands.toList.filterMap fun | .tmp t => some t | _ => none) ++ (match o.guard with | some (j, _) => ((ops[j]?).bind (·.dst)).toList | none => [])

theorem eval_agree {σ τ : AS} {o : Oper} (h : ∀ t ∈ looks ops o, σ.get t = τ.get t) : ∀ x ∈ o.op.operands, σ.eval x = τ.eval x := by
  intro x hx
  cases x with
  | tmp t => exact h t (List.mem_append_left _ (List.mem_filterMap.2 ⟨.tmp t, by simpa using hx, rfl⟩))
  | const v => rfl
  | global g => rfl
  | func f => rfl

theorem yield_agree {σ τ : AS} {o : Oper} (h : ∀ t ∈ looks ops o, σ.get t = τ.get t) {j : Nat} {want : Bool} (hg : o.guard = some (j, want)) : yieldOf ops σ j = yieldOf ops τ j := by
  unfold yieldOf
  cases hd : (ops[j]?).bind (·.dst) with
  | none => rfl
  | some t => exact h t (List.mem_append_right _ (by simp [hg, hd]))

theorem stepR_reads {o : Oper} (hk : opK tbl o.op ≤ 1) {σ : AS} {r : AV × List AObj} (h : astepR T tbl ops o σ = some r) : r.2 = σ.objs := by
  unfold astepR at h
  split at h
  · exact aExec_reads hk h
  · split at h
    · split at h
      · exact aExec_reads hk h
      · cases h; rfl
    · cases h; rfl
    · cases h

theorem stepR_same {o : Oper} {σ τ : AS} (h : ∀ t ∈ looks ops o, σ.get t = τ.get t) (ho : σ.objs = τ.objs) : astepR T tbl ops o σ = astepR T tbl ops o τ := by
  unfold astepR
  split
  · rw [ho]; exact aExec_congr (eval_agree h) _
  · rename_i j want hg
    rw [yield_agree h hg, ho]
    split
    · split
      · exact aExec_congr (eval_agree h) _
      · rfl
    · rfl
    · rfl

theorem stepR_pure {o : Oper} (hk : opK tbl o.op = 0) {σ τ : AS} (h : ∀ t ∈ looks ops o, σ.get t = τ.get t) {r : AV × List AObj} (hr : astepR T tbl ops o σ = some r) :
    astepR T tbl ops o τ = some (r.1, τ.objs) := by
  unfold astepR at hr ⊢
  have key : aExec T tbl o.op σ.eval σ.objs = some r → aExec T tbl o.op τ.eval τ.objs = some (r.1, τ.objs) := by
    intro h1
    rw [aExec_congr (eval_agree h)] at h1
    exact (aExec_pure hk h1).2
  split at hr
  · exact key hr
  · rename_i j want hg
    rw [← yield_agree h hg]
    split at hr
    · split at hr
      · rename_i hb; rw [if_pos hb]; exact key hr
      · rename_i hb; rw [if_neg hb]; cases hr; rfl
    · cases hr; rfl
    · cases hr

def apartB (ops : Array Oper) (x y : Oper) : Bool :=
  match x.dst with
  | none => true
  | some d => !((looks ops y).contains d) && !(y.dst == some d)

def commB (tbl : Tbl) (ops : Array Oper) (x y : Oper) : Bool :=
  apartB ops x y && apartB ops y x && (decide (opK tbl x.op = 0) || decide (opK tbl y.op = 0) || (decide (opK tbl x.op ≤ 1) && decide (opK tbl y.op ≤ 1)))

theorem apart_get {x y : Oper} (h : apartB ops x y = true) (σ : AS) (r : AV × List AObj) : ∀ t ∈ looks ops y, (σ.res x.dst r).get t = σ.get t := by
  intro t ht
  rw [res_eq]
  split
  · rename_i hd
    rw [apartB, hd] at h
    simp at h
    exact absurd ht h.1
  · rfl

theorem apart_dst {x y : Oper} (h : apartB ops x y = true) {t : Nat} (hx : x.dst = some t) : y.dst ≠ some t := by
  rw [apartB, hx] at h
  simp at h
  exact h.2

/-- Two operations that have nothing to do with each other: either goes first. -/
theorem step_comm {x y : Oper} (hc : commB tbl ops x y = true) {σ σ1 σ2 : AS} (h1 : astep T tbl ops x σ = some σ1) (h2 : astep T tbl ops y σ1 = some σ2) :
    ∃ τ1 τ2, astep T tbl ops y σ = some τ1 ∧ astep T tbl ops x τ1 = some τ2 ∧ Eqv σ2 τ2 := by
  simp only [commB, Bool.and_eq_true, Bool.or_eq_true, decide_eq_true_eq] at hc
  obtain ⟨⟨hxy, hyx⟩, hk⟩ := hc
  rw [astep_eq] at h1 h2
  cases hrx : astepR T tbl ops x σ with
  | none => rw [hrx] at h1; cases h1
  | some rx =>
  rw [hrx] at h1
  simp only [Option.map_some, Option.some.injEq] at h1
  subst h1
  cases hry : astepR T tbl ops y (σ.res x.dst rx) with
  | none => rw [hry] at h2; cases h2
  | some ry =>
  rw [hry] at h2
  simp only [Option.map_some, Option.some.injEq] at h2
  subst h2
  have gxy := apart_get hxy σ rx
  have gyx : ∀ r, ∀ t ∈ looks ops x, (σ.res y.dst r).get t = σ.get t := fun r => apart_get hyx σ r
  have fin : ∀ (r r' : AV × List AObj), r.1 = ry.1 → r'.1 = rx.1 → r'.2 = ry.2 → Eqv ((σ.res x.dst rx).res y.dst ry) ((σ.res y.dst r).res x.dst r') := by
    intro r r' e1 e2 e3
    refine ⟨fun t => ?_, by rw [objs_res, objs_res, e3]⟩
    rw [res_eq, res_eq, res_eq, res_eq, e1, e2]
    split
    · rename_i hy
      have := apart_dst hyx hy
      rw [if_neg this]
    · rfl
  by_cases hx1 : opK tbl x.op ≤ 1
  · have ox : rx.2 = σ.objs := stepR_reads hx1 hrx
    have hy0 : astepR T tbl ops y σ = some ry := by
      rw [← hry]; exact (stepR_same gxy (by rw [objs_res, ox])).symm
    by_cases hx0 : opK tbl x.op = 0
    · have := stepR_pure (T := T) (tbl := tbl) hx0 (τ := σ.res y.dst ry) (fun t ht => (gyx ry t ht).symm) hrx
      refine ⟨_, _, by rw [astep_eq, hy0]; rfl, by rw [astep_eq, this]; rfl, fin ry (rx.1, (σ.res y.dst ry).objs) rfl rfl (objs_res _ _ _)⟩
    · have hy1 : opK tbl y.op ≤ 1 := by omega
      have oy : ry.2 = σ.objs := stepR_reads hy1 hy0
      have : astepR T tbl ops x (σ.res y.dst ry) = some rx := by
        rw [← hrx]; exact stepR_same (gyx ry) (by rw [objs_res, oy])
      refine ⟨_, _, by rw [astep_eq, hy0]; rfl, by rw [astep_eq, this]; rfl, fin ry _ rfl rfl (by rw [ox, oy])⟩
  · have hy0 : opK tbl y.op = 0 := by omega
    have oy : ry.2 = rx.2 := (stepR_reads (by omega) hry).trans (objs_res _ _ _)
    have hys := stepR_pure (T := T) (tbl := tbl) hy0 (τ := σ) gxy hry
    have : astepR T tbl ops x (σ.res y.dst (ry.1, σ.objs)) = some rx := by
      rw [← hrx]; exact stepR_same (gyx _) (by rw [objs_res])
    refine ⟨_, _, by rw [astep_eq, hys]; rfl, by rw [astep_eq, this]; rfl, fin (ry.1, σ.objs) _ rfl rfl oy.symm⟩

/-- An operation that has nothing to do with those ahead of it may go first. -/
theorem steps_front : ∀ (A : List Oper) (y : Oper) (B : List Oper) {σ τ : AS}, (∀ x ∈ A, commB tbl ops x y = true) → asteps T tbl ops (A ++ y :: B) σ = some τ →
    ∃ τ', asteps T tbl ops (y :: (A ++ B)) σ = some τ' ∧ Eqv τ τ' := by
  intro A
  induction A with
  | nil => intro y B σ τ _ h; exact ⟨τ, h, .refl _⟩
  | cons x A ih =>
    intro y B σ τ hc h
    simp only [List.cons_append, asteps] at h
    cases h1 : astep T tbl ops x σ with
    | none => rw [h1] at h; cases h
    | some σ1 =>
      rw [h1] at h
      obtain ⟨τ1, h2, e1⟩ := ih y B (fun z hz => hc z (List.mem_cons_of_mem _ hz)) h
      simp only [asteps] at h2
      cases h3 : astep T tbl ops y σ1 with
      | none => rw [h3] at h2; cases h2
      | some σ2 =>
        rw [h3] at h2
        obtain ⟨υ1, υ2, h4, h5, e2⟩ := step_comm (hc x (List.mem_cons_self ..)) h1 h3
        obtain ⟨τ2, h6, e3⟩ := Eqv.steps _ e2 h2
        refine ⟨τ2, ?_, e1.trans e3⟩
        simp only [List.cons_append, asteps, h4, Option.bind_some, h5]
        exact h6

end

end Go.AI
