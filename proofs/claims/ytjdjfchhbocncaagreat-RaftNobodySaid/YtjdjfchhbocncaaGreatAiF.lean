/- A region whose order is drawn comes to what the text's order comes to. -/
import Derived.Test.YtjdjfchhbocncaaGreatAiE
namespace Go.AI
set_option linter.unusedVariables false

section
variable {T : Nat → Option TY} {tbl : Tbl} {ops : Array Oper}

theorem build_pure {t len : Nat} {parts : Array (Nat × Operand)} (hk : opK tbl (.buildSlice t len parts) ≤ 1) (e : Env) (objs : List AObj) {r : AV × List AObj} (h : aDo T tbl (.buildSlice t len parts) e objs = some r) :
    r.2 = objs ∧ ∀ objs', aDo T tbl (.buildSlice t len parts) e objs' = some (r.1, objs') := by
  have hz : tbl.z t len = true := by
    cases hz : tbl.z t len with
    | true => rfl
    | false => simp [opK, hz] at hk
  simp only [aDo, hz] at h ⊢
  split at h
  · rename_i y hy
    split at h
    · rename_i z hz1 hz2
      split at h
      · rename_i rows hrows
        split at h
        · rename_i hy0
          cases h
          exact ⟨rfl, fun _ => rfl⟩
        · cases h
      · cases h
    · cases h
  · cases h

theorem conv_pure {t u : Nat} {x : Operand} (hk : opK tbl (.convert t u x) ≤ 1) (e : Env) (objs : List AObj) {r : AV × List AObj} (h : aDo T tbl (.convert t u x) e objs = some r) : r.2 = objs := by
  simp only [aDo] at h
  split at h
  · split at h
    · cases h; rfl
    · cases h
  · split at h
    · cases h; rfl
    · cases h
  · rename_i hc
    simp [opK, hc] at hk
  · cases h

theorem conv_pure0 {t u : Nat} {x : Operand} (hk : opK tbl (.convert t u x) = 0) (e : Env) (objs : List AObj) {r : AV × List AObj} (h : aDo T tbl (.convert t u x) e objs = some r) :
    ∀ objs', aDo T tbl (.convert t u x) e objs' = some (r.1, objs') := by
  intro objs'
  simp only [aDo] at h ⊢
  cases hcv : tbl.cv t with
  | zero => simp only [hcv] at h; cases h
  | succ n => cases n with
    | zero => simp [opK, hcv] at hk
    | succ n => cases n with
      | zero =>
        simp only [hcv] at h ⊢
        split at h
        · rename_i h1 h2
          cases h
          simp only []
        · cases h
      | succ n => cases n with
        | zero => simp [opK, hcv] at hk
        | succ n => simp only [hcv] at h; cases h

theorem call_pure {c : Call} (hb : isBuild tbl (.call c) = true) (e : Env) (objs : List AObj) {r : AV × List AObj} (h : aDo T tbl (.call c) e objs = some r) : r.2 = objs := by
  obtain ⟨ca, ar, at'⟩ := c
  cases ca with
  | value f =>
    simp only [isBuild] at hb
    simp only [aDo] at h
    split at h
    · exact (callQ_some h).2.1 hb
    · cases h
  | builtin b => simp [isBuild] at hb
  | invoke a b => simp [isBuild] at hb

theorem build_call {c : Call} (hk : opK tbl (.call c) ≤ 1) (hb : ¬(opK tbl (.call c) ≤ 1 ∧ isBuild tbl (.call c) = false)) : isBuild tbl (.call c) = true := by
  cases h : isBuild tbl (.call c) with
  | true => rfl
  | false => exact absurd ⟨hk, h⟩ hb
theorem build_call1 {c : Call} (hb : isBuild tbl (.call c) = true) : opK tbl (.call c) = 1 := by
  obtain ⟨ca, ar, at'⟩ := c
  cases ca with
  | value f =>
    simp only [isBuild] at hb
    cases f with
    | func f =>
      simp only [isRead] at hb
      split at hb
      · rename_i hk
        simp only [opK, hk, hb]
      · cases hb
    | tmp t => simp [isRead] at hb
    | const v => simp [isRead] at hb
    | global g => simp [isRead] at hb
  | builtin b => simp [isBuild] at hb
  | invoke a b => simp [isBuild] at hb

theorem aExec_reads {op : Op} (hk : opK tbl op ≤ 1) {e : Env} {objs : List AObj} {r : AV × List AObj} (h : aExec T tbl op e objs = some r) : r.2 = objs := by
  unfold aExec at h
  split at h
  · cases hv : aVal T tbl op e objs with
    | none => rw [hv] at h; cases h
    | some v => rw [hv] at h; cases h; rfl
  · rename_i hb
    cases op <;> first | (exact absurd ⟨hk, rfl⟩ hb) | skip
    · exact (build_pure hk e objs h).1
    · exact conv_pure hk e objs h
    · exact call_pure (build_call hk hb) e objs h

theorem aVal_pure {op : Op} (hk : opK tbl op = 0) (e : Env) (objs objs' : List AObj) : aVal T tbl op e objs' = aVal T tbl op e objs := by
  cases op <;> simp only [aVal] <;> simp [opK] at hk

theorem aExec_pure {op : Op} (hk : opK tbl op = 0) {e : Env} {objs objs' : List AObj} {r : AV × List AObj} (h : aExec T tbl op e objs = some r) : r.2 = objs ∧ aExec T tbl op e objs' = some (r.1, objs') := by
  refine ⟨aExec_reads (by omega) h, ?_⟩
  unfold aExec at h ⊢
  split at h
  · rename_i hb
    rw [if_pos hb]
    rw [aVal_pure hk e objs objs']
    cases hv : aVal T tbl op e objs with
    | none => rw [hv] at h; cases h
    | some v => rw [hv] at h; cases h; rfl
  · rename_i hb
    rw [if_neg hb]
    cases op <;> first | (exact absurd ⟨by omega, rfl⟩ hb) | skip
    · exact (build_pure (by omega) e objs h).2 objs'
    · exact conv_pure0 hk e objs h objs'
    · have := build_call1 (build_call (by omega) hb)
      omega

theorem bound_congr {e e' : Env} {x : Option Operand} (h : ∀ o, x = some o → e o = e' o) (d : Int) : boundA e d x = boundA e' d x := by
  cases x with
  | none => rfl
  | some o => simp only [boundA, h o rfl]

theorem buildA_congr {e e' : Env} (pl : Nat → Option (Nat × TY)) : ∀ (l : List (Nat × Operand)) (cells : List AV), (∀ p ∈ l, e p.2 = e' p.2) → buildA pl e l cells = buildA pl e' l cells := by
  intro l
  induction l with
  | nil => intro cells _; rfl
  | cons p l ih =>
    obtain ⟨i, x⟩ := p
    intro cells h
    have hx : e x = e' x := h (i, x) (List.mem_cons_self ..)
    have ih' := fun cells => ih cells fun q hq => h q (List.mem_cons_of_mem _ hq)
    simp only [buildA, hx, ih']

theorem aVal_congr {op : Op} {e e' : Env} (h : ∀ x ∈ op.operands, e x = e' x) (objs : List AObj) : aVal T tbl op e objs = aVal T tbl op e' objs := by
  cases op <;> simp only [aVal]
  case move x => rw [h x (by simp [Op.operands])]
  case assign x => rw [h x (by simp [Op.operands])]
  case pick c x y => rw [h c (by simp [Op.operands]), h x (by simp [Op.operands]), h y (by simp [Op.operands])]
  case binOp op t x y yt => rw [h x (by simp [Op.operands]), h y (by simp [Op.operands])]
  case unOp op t x => rw [h x (by simp [Op.operands])]
  case convert s d x => rw [h x (by simp [Op.operands])]
  case extract x i => rw [h x (by simp [Op.operands])]
  case nilCheck x => rw [h x (by simp [Op.operands])]
  case makeFunc f a c =>
    have h2 : c.toList.map e = c.toList.map e' := List.map_congr_left fun x hx => h x (by simp only [Op.operands]; simpa using Or.inr hx)
    rw [h2]
  case build t parts =>
    have hp : ∀ p ∈ parts.toList, e p.2 = e' p.2 := fun p hp => h p.2 (by
      simp only [Op.operands, List.mem_toArray, List.mem_map]
      exact ⟨p, hp, rfl⟩)
    simp only [buildA_congr _ _ _ hp]
  case field t x f => rw [h x (by simp [Op.operands])]
  case lookup t x k ok => rw [h x (by simp [Op.operands]), h k (by simp [Op.operands])]
  case index t x i => rw [h x (by simp [Op.operands]), h i (by simp [Op.operands])]
  case fieldAddr t x f => rw [h x (by simp [Op.operands])]
  case indexAddr t x i => rw [h x (by simp [Op.operands]), h i (by simp [Op.operands])]
  case load t x => rw [h x (by simp [Op.operands])]
  case slice t x lo hi mx =>
    have hlo : ∀ d, boundA e d lo = boundA e' d lo := bound_congr (e := e) (e' := e') (x := lo) (fun o ho => h o (by subst ho; simp [Op.operands]))
    cases mx with
    | some m => rw [h x (by simp [Op.operands])]
    | none =>
      have hhi : ∀ d, boundA e d hi = boundA e' d hi := bound_congr (e := e) (e' := e') (x := hi) (fun o ho => h o (by subst ho; simp [Op.operands]))
      rw [h x (by simp [Op.operands])]
      simp only [hlo, hhi, sliceP]
  case call c =>
    have h2 : c.args.toList.map e = c.args.toList.map e' := List.map_congr_left fun x hx => h x (by simp only [Op.operands, Call.operands]; simpa using Or.inr hx)
    cases hc : c.callee with
    | value f =>
      have h1 : e f = e' f := h f (by simp [Op.operands, Call.operands, hc])
      simp only [h1, h2]
    | invoke r m => rfl
    | builtin b =>
      cases b <;> (try rfl) <;> (try simp only [h2])
      case len =>
        cases hl : c.args.toList with
        | nil => rfl
        | cons x l =>
          have h1 : e x = e' x := h x (by simp only [Op.operands, Call.operands, hc]; have : x ∈ c.args.toList := by rw [hl]; exact List.mem_cons_self ..
                                          simpa using this)
          cases l with
          | nil =>
            cases c.argTypes.toList with
            | nil => rfl
            | cons t m =>
              cases m with
              | nil => simp only [h1]
              | cons => rfl
          | cons y l => rfl

theorem fill_congr {e e' : Env} (y : TY) : ∀ (l : List (Nat × Operand)) (rows : List (List D)), (∀ p ∈ l, e p.2 = e' p.2) → fillA e y l rows = fillA e' y l rows := by
  intro l
  induction l with
  | nil => intro rows _; rfl
  | cons p l ih =>
    obtain ⟨i, x⟩ := p
    intro rows h
    have hx : e x = e' x := h (i, x) (List.mem_cons_self ..)
    have ih' := fun rows => ih rows fun q hq => h q (List.mem_cons_of_mem _ hq)
    simp only [fillA, hx, ih']

theorem aDo_congr {op : Op} {e e' : Env} (h : ∀ x ∈ op.operands, e x = e' x) (objs : List AObj) : aDo T tbl op e objs = aDo T tbl op e' objs := by
  cases op <;> simp only [aDo]
  case box el x => rw [h x (by simp [Op.operands])]
  case store t x y => rw [h x (by simp [Op.operands]), h y (by simp [Op.operands])]
  case buildSlice t len parts =>
    have hp : ∀ p ∈ parts.toList, e p.2 = e' p.2 := fun p hp => h p.2 (by
      simp only [Op.operands, List.mem_toArray, List.mem_map]
      exact ⟨p, hp, rfl⟩)
    simp only [fill_congr _ _ _ hp, buildA_congr _ _ _ hp]
  case mapUpdate t m k v => rw [h m (by simp [Op.operands]), h k (by simp [Op.operands]), h v (by simp [Op.operands])]
  case makeSlice t l c => rw [h l (by simp [Op.operands]), h c (by simp [Op.operands])]
  case convert t u x => rw [h x (by simp [Op.operands])]
  case call c =>
    cases hc : c.callee with
    | value f =>
      have h1 : e f = e' f := h f (by simp [Op.operands, Call.operands, hc])
      have h2 : c.args.toList.map e = c.args.toList.map e' := by
        refine List.map_congr_left fun x hx => h x ?_
        simp only [Op.operands, Call.operands, hc]
        simpa using Or.inr hx
      simp only [h1, h2]
    | invoke r m => rfl
    | builtin b =>
      have key : ∀ s x, c.args.toList = [s, x] → e s = e' s ∧ e x = e' x := by
        intro s x hl
        refine ⟨h s ?_, h x ?_⟩
        · simp only [Op.operands, Call.operands, hc]
          have : s ∈ c.args.toList := by rw [hl]; simp
          simpa using this
        · simp only [Op.operands, Call.operands, hc]
          have : x ∈ c.args.toList := by rw [hl]; simp
          simpa using this
      have key1 : ∀ s, c.args.toList = [s] → e s = e' s := by
        intro s hl
        refine h s ?_
        simp only [Op.operands, Call.operands, hc]
        have : s ∈ c.args.toList := by rw [hl]; simp
        simpa using this
      cases b <;> (try rfl)
      all_goals
        simp only
        split
        · first
          | (rename_i s x t u hl _
             obtain ⟨h1, h2⟩ := key s x hl
             rw [h1, h2])
          | (rename_i s t hl _
             rw [key1 s hl])
        · rfl

theorem aExec_congr {op : Op} {e e' : Env} (h : ∀ x ∈ op.operands, e x = e' x) (objs : List AObj) : aExec T tbl op e objs = aExec T tbl op e' objs := by
  unfold aExec
  rw [aVal_congr h, aDo_congr h]

theorem astep_eq (o : Oper) (σ : AS) : astep T tbl ops o σ = (astepR T tbl ops o σ).map (σ.res o.dst) := rfl

def looks (ops : Array Oper) (o : Oper) : List Nat :=
  (o.op.operands.toList.filterMap fun | .tmp t => some t | _ => none) ++ (match o.guard with | some (j, _) => ((ops[j]?).bind (·.dst)).toList | none => [])

theorem eval_agree {σ τ : AS} {o : Oper} (h : ∀ t ∈ looks ops o, σ.get t = τ.get t) : ∀ x ∈ o.op.operands, σ.eval x = τ.eval x := by
  intro x hx
  cases x with
  | tmp t => exact h t (List.mem_append_left _ (List.mem_filterMap.2 ⟨.tmp t, by simpa using hx, rfl⟩))
  | const v => rfl
  | global g => rfl
  | func f => rfl

theorem yield_agree {σ τ : AS} {o : Oper} (h : ∀ t ∈ looks ops o, σ.get t = τ.get t) {j : Nat} {want : Bool} (hg : o.guard = some (j, want)) : yieldOf ops σ j = yieldOf ops τ j := by
  unfold yieldOf
  cases hd : (ops[j]?).bind (·.dst) with
  | none => rfl
  | some t => exact h t (List.mem_append_right _ (by simp [hg, hd]))

theorem stepR_reads {o : Oper} (hk : opK tbl o.op ≤ 1) {σ : AS} {r : AV × List AObj} (h : astepR T tbl ops o σ = some r) : r.2 = σ.objs := by
  unfold astepR at h
  split at h
  · exact aExec_reads hk h
  · split at h
    · split at h
      · exact aExec_reads hk h
      · cases h; rfl
    · cases h; rfl
    · cases h

theorem stepR_same {o : Oper} {σ τ : AS} (h : ∀ t ∈ looks ops o, σ.get t = τ.get t) (ho : σ.objs = τ.objs) : astepR T tbl ops o σ = astepR T tbl ops o τ := by
  unfold astepR
  split
  · rw [ho]; exact aExec_congr (eval_agree h) _
  · rename_i j want hg
    rw [yield_agree h hg, ho]
    split
    · split
      · exact aExec_congr (eval_agree h) _
      · rfl
    · rfl
    · rfl

theorem stepR_pure {o : Oper} (hk : opK tbl o.op = 0) {σ τ : AS} (h : ∀ t ∈ looks ops o, σ.get t = τ.get t) {r : AV × List AObj} (hr : astepR T tbl ops o σ = some r) :
    astepR T tbl ops o τ = some (r.1, τ.objs) := by
  unfold astepR at hr ⊢
  have key : aExec T tbl o.op σ.eval σ.objs = some r → aExec T tbl o.op τ.eval τ.objs = some (r.1, τ.objs) := by
    intro h1
    rw [aExec_congr (eval_agree h)] at h1
    exact (aExec_pure hk h1).2
  split at hr
  · exact key hr
  · rename_i j want hg
    rw [← yield_agree h hg]
    split at hr
    · split at hr
      · rename_i hb; rw [if_pos hb]; exact key hr
      · rename_i hb; rw [if_neg hb]; cases hr; rfl
    · cases hr; rfl
    · cases hr

def apartB (ops : Array Oper) (x y : Oper) : Bool :=
  match x.dst with
  | none => true
  | some d => !((looks ops y).contains d) && !(y.dst == some d)

/-- New objects alone, whatever was asked before. -/
def isAl (tbl : Tbl) (o : Oper) : Bool :=
  match o.op, o.guard with
  | .alloc _, none => true
  | .call { callee := .value f, .. }, none => isExt tbl f
  | _, _ => false

def commB (tbl : Tbl) (ops : Array Oper) (x y : Oper) : Bool :=
  apartB ops x y && apartB ops y x && (decide (opK tbl x.op = 0) || decide (opK tbl y.op = 0) || (decide (opK tbl x.op ≤ 1) && (decide (opK tbl y.op ≤ 1) || isAl tbl y)))

theorem app_get {objs : List AObj} {id : Nat} {o : AObj} (new : AObj) (h : objs[id]? = some o) : (objs ++ [new])[id]? = some o := by
  rw [List.getElem?_append_left (List.getElem?_eq_some_iff.1 h).1]; exact h

theorem srcA_app {v : AV} {objs : List AObj} {R : List (List D)} (new : AObj) (h : srcA v objs = some R) : srcA v (objs ++ [new]) = some R := by
  unfold srcA at h ⊢
  split at h
  · exact h
  · exact h
  · exact h
  · split at h
    · rename_i ho
      simp only [app_get new ho]
      exact h
    · cases h
  · cases h

theorem elemA_app {t : Nat} {x : AV} {n : Int} {objs : List AObj} {r : AV} (new : AObj) (h : elemA T t x n objs = some r) : elemA T t x n (objs ++ [new]) = some r := by
  unfold elemA at h ⊢
  split at h
  · exact h
  · split at h
    · rename_i h1 h2
      simp only [h1, app_get new h2]
      exact h
    · cases h
  · split at h
    · rename_i h1
      (try simp only [h1])
      split at h
      · rename_i h2; simp only [app_get new h2]; exact h
      · rename_i h2; simp only [app_get new h2]; exact h
      · cases h
      · cases h
      · cases h
    · cases h
  · exact h
  · cases h

theorem loadA_app {y : TY} {x : AV} {objs : List AObj} {r : AV} (new : AObj) (h : loadA y x objs = some r) : loadA y x (objs ++ [new]) = some r := by
  unfold loadA at h ⊢
  split at h
  · split at h
    · rename_i h2; simp only [app_get new h2]; exact h
    · rename_i h2; simp only [app_get new h2]; exact h
    · cases h
    · rename_i h2; simp only [app_get new h2]; exact h
    · cases h
  · exact h
  · cases h

theorem lookA_app {y : TY} {x k : AV} {ok : Bool} {objs : List AObj} {r : AV} (new : AObj) (h : lookA y x k ok objs = some r) : lookA y x k ok (objs ++ [new]) = some r := by
  unfold lookA at h ⊢
  split at h
  · split at h
    · exact h
    · split at h
      · rename_i h2; simp only [app_get new h2]; exact h
      · cases h
    · cases h
  · cases h

theorem sliceA_app {t : Nat} {x : AV} {lo hi : Int} {objs : List AObj} {r : AV} (new : AObj) (h : sliceA T t x lo hi objs = some r) : sliceA T t x lo hi (objs ++ [new]) = some r := by
  unfold sliceA at h ⊢
  split at h
  · exact h
  · exact h
  · split at h
    · rename_i h1 h2; simp only [h1, app_get new h2]; exact h
    · cases h
  · exact h
  · cases h

theorem sliceP_app {t : Nat} {x : AV} {lo hi : Option Operand} {e : Env} {objs : List AObj} {r : AV} (new : AObj) (h : sliceP T t x lo hi e objs = some r) : sliceP T t x lo hi e (objs ++ [new]) = some r := by
  unfold sliceP at h ⊢
  split at h
  · rename_i h1
    split at h
    · rename_i h2 h3 h4; simp only [h2, h3, app_get new h4]; exact h
    · cases h
  · cases h

/-! ### Calls that read, where there is a new variable -/

theorem addL_sub : ∀ (m l : List Nat), (∀ x ∈ m, x ∈ l) → addL l m = l
  | [], l, _ => rfl
  | x :: m, l, h => by
    have := inL_iff.2 (h x (List.mem_cons_self ..))
    simp only [addL, this]
    exact addL_sub m l fun y hy => h y (List.mem_cons_of_mem _ hy)
theorem addL_mem : ∀ (m l : List Nat) {x : Nat}, x ∈ l → x ∈ addL l m
  | [], l, x, h => h
  | y :: m, l, x, h => by
    simp only [addL]
    split
    · exact addL_mem m l h
    · exact addL_mem m _ (List.mem_append_left _ h)
theorem reachN_mem {objs : List AObj} : ∀ (n : Nat) (l : List Nat) {x : Nat}, x ∈ l → x ∈ reachN objs n l
  | 0, l, x, h => h
  | n + 1, l, x, h => reachN_mem n _ (addL_mem _ _ h)
theorem objIds_app {objs : List AObj} (new : AObj) : ∀ (l : List Nat), (∀ x ∈ l, x < objs.length) → objIds (objs ++ [new]) l = objIds objs l
  | [], _ => rfl
  | x :: l, h => by
    have ih := objIds_app new l fun y hy => h y (List.mem_cons_of_mem _ hy)
    have hx := h x (List.mem_cons_self ..)
    simp only [objIds, List.getElem?_append_left hx, ih]
theorem reachN_app {objs : List AObj} (new : AObj) : ∀ (n : Nat) (l : List Nat), (∀ x ∈ reachN objs n l, x < objs.length) → reachN (objs ++ [new]) n l = reachN objs n l
  | 0, l, _ => rfl
  | n + 1, l, h => by
    have hl : ∀ x ∈ l, x < objs.length := fun x hx => h x (reachN_mem (n + 1) l hx)
    simp only [reachN, objIds_app new l hl]
    exact reachN_app new n _ h
theorem reachN_succ {objs : List AObj} : ∀ (n : Nat) (l : List Nat), reachN objs (n + 1) l = addL (reachN objs n l) (objIds objs (reachN objs n l))
  | 0, l => rfl
  | n + 1, l => by
    show reachN objs (n + 1) (addL l (objIds objs l)) = _
    rw [reachN_succ n]
    rfl
theorem loc_closed {objs : List AObj} {L : List Nat} (h : locOk objs L = true) : ∀ (l : List Nat), (∀ x ∈ l, x ∈ L) → ∀ x ∈ objIds objs l, x ∈ L
  | [], _, x, hx => by simp [objIds] at hx
  | y :: l, hl, x, hx => by
    have ih := loc_closed h l fun z hz => hl z (List.mem_cons_of_mem _ hz)
    obtain ⟨o, h1, h2, _⟩ := locOk_spec h (hl y (List.mem_cons_self ..))
    simp only [objIds, h1] at hx
    cases o with
    | var cells g =>
      simp only [List.mem_append] at hx
      rcases hx with hx | hx
      · exact inL_iff.1 (idsL_all cells h2 x hx)
      · exact ih x hx
    | arr rs n g => exact ih x hx
    | map m g =>
      simp only [List.mem_append] at hx
      rcases hx with hx | hx
      · exact inL_iff.1 (idsM_all m h2 x hx)
      · exact ih x hx
    | arv cells n g =>
      simp only [List.mem_append] at hx
      rcases hx with hx | hx
      · exact inL_iff.1 (idsL_all cells h2 x hx)
      · exact ih x hx

theorem callS_app {g : Nat} {args : List AV} {objs : List AObj} {r : AV × List AObj} (new : AObj) (h : callS true tbl g args objs = some r) : callS true tbl g args (objs ++ [new]) = some (r.1, objs ++ [new]) := by
  unfold callS at h ⊢
  simp only at h ⊢
  split at h
  · split at h
    · rename_i hl
      have hl' := hl
      simp only [Bool.and_eq_true] at hl
      have hlt : ∀ x ∈ reachN objs objs.length (addL [] (idsL args)), x < objs.length := fun x hx => by
        obtain ⟨o, h1, _, _⟩ := locOk_spec hl.1 hx
        exact (List.getElem?_eq_some_iff.1 h1).1
      have hL : reachN (objs ++ [new]) (objs ++ [new]).length (addL [] (idsL args)) = reachN objs objs.length (addL [] (idsL args)) := by
        have e : (objs ++ [new]).length = objs.length + 1 := by simp
        have h2 : reachN objs (objs.length + 1) (addL [] (idsL args)) = reachN objs objs.length (addL [] (idsL args)) := by
          rw [reachN_succ]
          exact addL_sub _ _ (loc_closed hl.1 _ fun x hx => hx)
        rw [e, reachN_app new _ _ (by rw [h2]; exact hlt), h2]
      rw [hL]
      generalize reachN objs objs.length (addL [] (idsL args)) = L at h hl hlt ⊢
      have hget : ∀ id ∈ L, (objs ++ [new])[id]? = objs[id]? := fun id hid => List.getElem?_append_left (hlt id hid)
      have h3 : locOk (objs ++ [new]) L = true := by
        have := hl.1
        simp only [locOk, Bool.and_eq_true, List.all_eq_true] at this ⊢
        refine ⟨this.1, fun id hid => ?_⟩
        rw [hget id hid]
        exact this.2 id hid
      have h4 : locO (objs ++ [new]) L = locO objs L := by
        unfold locO
        refine List.map_congr_left fun id hid => ?_
        simp only [List.getD_eq_getElem?_getD, hget id hid]
      simp only [h3, hl.2, h4, Bool.and_self]
      split at h
      · rename_i v ol hol
        (try simp only [hol])
        split at h
        · rename_i hs
          cases h
          (try simp only)
        · cases h
      · cases h
    · cases h
  · split at h
    · rename_i v hv
      cases h
      (try simp only)
    · cases h

/-- What reads says the same where there is a new variable. -/
theorem aExec_app {op : Op} (hk : opK tbl op ≤ 1) {e : Env} {objs : List AObj} {r : AV × List AObj} (new : AObj) (h : aExec T tbl op e objs = some r) : aExec T tbl op e (objs ++ [new]) = some (r.1, objs ++ [new]) := by
  by_cases h0 : opK tbl op = 0
  · exact (aExec_pure h0 h).2
  unfold aExec at h ⊢
  split at h
  · rename_i hb
    rw [if_pos hb]
    cases hv : aVal T tbl op e objs with
    | none => rw [hv] at h; cases h
    | some v =>
      rw [hv] at h
      cases h
      have : aVal T tbl op e (objs ++ [new]) = some v := by
        cases op <;> simp only [aVal] at hv ⊢ <;> first | exact hv | skip
        case indexAddr t x i =>
          split at hv
          · rename_i h1; (try simp only [h1]); exact elemA_app new hv
          · cases hv
        case load t a =>
          split at hv
          · rename_i h1; (try simp only [h1]); exact loadA_app new hv
          · cases hv
        case lookup t x k ok =>
          split at hv
          · rename_i h1; (try simp only [h1]); exact lookA_app new hv
          · cases hv
        case slice t x lo hi mx =>
          split at hv
          · rename_i h1
            split at hv
            · rename_i h2 h3; (try simp only [h1, h2, h3]); exact sliceA_app new hv
            · cases hv
          · rename_i h1; (try simp only [h1]); exact sliceP_app new hv
          · cases hv
      rw [this]; rfl
  · rename_i hb
    rw [if_neg hb]
    cases op <;> first | (exact absurd ⟨hk, rfl⟩ hb) | skip
    · exact absurd (build_pure hk e objs h).1 (by
        exfalso
        rename_i t len parts
        have : opK tbl (.buildSlice t len parts) = 0 := by
          simp only [opK] at hk ⊢
          split at hk <;> first | rfl | (simp at hk)
        exact h0 this)
    · rename_i src dst x
      have h2 := conv_pure hk e objs h
      simp only [aDo] at h ⊢
      cases hcv : tbl.cv src with
      | zero => simp only [hcv] at h; cases h
      | succ m => cases m with
        | zero =>
          simp only [hcv] at h ⊢
          split at h
          · rename_i v hv
            cases h
            have : strA T src dst (e x) (objs ++ [new]) = some v := by
              unfold strA at hv ⊢
              split at hv
              · rename_i hu
                (try simp only [hu])
                split at hv
                · cases hv
                · rename_i hne
                  split at hv
                  · rename_i R hR
                    simp only [srcA_app new hR]
                    exact hv
                  · cases hv
              · cases hv
            simp only [this]
          · cases h
        | succ m => exact absurd (by cases m with | zero => simp [opK, hcv] | succ m => cases m with | zero => (simp [opK, hcv] at hk) | succ m => simp [opK, hcv]) h0
    · rename_i c
      have hb1 := build_call hk hb
      obtain ⟨ca, ar, at'⟩ := c
      cases ca with
      | value f =>
        have hb2 : isExt tbl f = false := by
          cases f with
          | func f =>
            simp only [isBuild, isRead] at hb1
            simp only [isExt]
            split at hb1
            · rename_i hk
              simp only [hb1]
            · cases hb1
          | tmp t => rfl
          | const v => rfl
          | global g => rfl
        simp only [isBuild] at hb1
        simp only [aDo, callQ, hb1, hb2] at h ⊢
        split at h
        · exact callS_app new h
        · cases h
      | builtin b => simp [isBuild] at hb1
      | invoke a b => simp [isBuild] at hb1

theorem aExec_apps {op : Op} (hk : opK tbl op ≤ 1) {e : Env} : ∀ (news : List AObj) {objs : List AObj} {r : AV × List AObj}, aExec T tbl op e objs = some r → aExec T tbl op e (objs ++ news) = some (r.1, objs ++ news)
  | [], objs, r, h => by
    have := aExec_reads hk h
    rw [List.append_nil, h]
    obtain ⟨r1, r2⟩ := r
    simp only at this
    rw [this]
  | new :: news, objs, r, h => by
    have h1 := aExec_app hk new h
    have h2 := aExec_apps hk news h1
    rwa [List.append_assoc] at h2

theorem apart_get {x y : Oper} (h : apartB ops x y = true) (σ : AS) (r : AV × List AObj) : ∀ t ∈ looks ops y, (σ.res x.dst r).get t = σ.get t := by
  intro t ht
  rw [res_eq]
  split
  · rename_i hd
    rw [apartB, hd] at h
    simp at h
    exact absurd ht h.1
  · rfl

theorem apart_dst {x y : Oper} (h : apartB ops x y = true) {t : Nat} (hx : x.dst = some t) : y.dst ≠ some t := by
  rw [apartB, hx] at h
  simp at h
  exact h.2

/-- Two operations that have nothing to do with each other: either goes first. -/
theorem step_comm {x y : Oper} (hc : commB tbl ops x y = true) {σ σ1 σ2 : AS} (h1 : astep T tbl ops x σ = some σ1) (h2 : astep T tbl ops y σ1 = some σ2) :
    ∃ τ1 τ2, astep T tbl ops y σ = some τ1 ∧ astep T tbl ops x τ1 = some τ2 ∧ Eqv σ2 τ2 := by
  simp only [commB, Bool.and_eq_true, Bool.or_eq_true, decide_eq_true_eq] at hc
  obtain ⟨⟨hxy, hyx⟩, hk⟩ := hc
  rw [astep_eq] at h1 h2
  cases hrx : astepR T tbl ops x σ with
  | none => rw [hrx] at h1; cases h1
  | some rx =>
  rw [hrx] at h1
  simp only [Option.map_some, Option.some.injEq] at h1
  subst h1
  cases hry : astepR T tbl ops y (σ.res x.dst rx) with
  | none => rw [hry] at h2; cases h2
  | some ry =>
  rw [hry] at h2
  simp only [Option.map_some, Option.some.injEq] at h2
  subst h2
  have gxy := apart_get hxy σ rx
  have gyx : ∀ r, ∀ t ∈ looks ops x, (σ.res y.dst r).get t = σ.get t := fun r => apart_get hyx σ r
  have fin : ∀ (r r' : AV × List AObj), r.1 = ry.1 → r'.1 = rx.1 → r'.2 = ry.2 → Eqv ((σ.res x.dst rx).res y.dst ry) ((σ.res y.dst r).res x.dst r') := by
    intro r r' e1 e2 e3
    refine ⟨fun t => ?_, by rw [objs_res, objs_res, e3]⟩
    rw [res_eq, res_eq, res_eq, res_eq, e1, e2]
    split
    · rename_i hy
      have := apart_dst hyx hy
      rw [if_neg this]
    · rfl
  by_cases hx1 : opK tbl x.op ≤ 1
  · have ox : rx.2 = σ.objs := stepR_reads hx1 hrx
    have hy0 : astepR T tbl ops y σ = some ry := by
      rw [← hry]; exact (stepR_same gxy (by rw [objs_res, ox])).symm
    by_cases hx0 : opK tbl x.op = 0
    · have := stepR_pure (T := T) (tbl := tbl) hx0 (τ := σ.res y.dst ry) (fun t ht => (gyx ry t ht).symm) hrx
      refine ⟨_, _, by rw [astep_eq, hy0]; rfl, by rw [astep_eq, this]; rfl, fin ry (rx.1, (σ.res y.dst ry).objs) rfl rfl (objs_res _ _ _)⟩
    · by_cases hy1 : opK tbl y.op ≤ 1
      case neg =>
        have hal : isAl tbl y = true := by
          rcases hk with (h | h) | ⟨_, h | h⟩
          · exact absurd h hx0
          · exact absurd (by omega) hy1
          · exact absurd h hy1
          · exact h
        obtain ⟨news, hnew⟩ : ∃ news, ry.2 = σ.objs ++ news := by
          unfold isAl at hal
          split at hal
          · rename_i el hop hg
            unfold astepR at hy0
            simp only [hg, hop] at hy0
            unfold aExec at hy0
            rw [if_neg (by simp [opK])] at hy0
            simp only [aDo] at hy0
            split at hy0
            · split at hy0
              · split at hy0
                · cases hy0; exact ⟨_, rfl⟩
                · cases hy0
              · cases hy0; exact ⟨_, rfl⟩
            · cases hy0
          · rename_i f args tys hop hg
            unfold astepR at hy0
            simp only [hg, hop] at hy0
            unfold aExec at hy0
            rw [if_neg (by rw [← hop]; exact fun h => hy1 h.1)] at hy0
            simp only [aDo] at hy0
            split at hy0
            · exact (callQ_some hy0).2.2 hal
            · cases hy0
          · cases hal
        have : astepR T tbl ops x (σ.res y.dst ry) = some (rx.1, σ.objs ++ news) := by
          have e0 : astepR T tbl ops x ⟨σ.tmps, σ.objs ++ news⟩ = some (rx.1, σ.objs ++ news) := by
            unfold astepR at hrx ⊢
            split at hrx
            · exact aExec_apps hx1 news hrx
            · rename_i j want hg
              have hyo : yieldOf ops ⟨σ.tmps, σ.objs ++ news⟩ j = yieldOf ops σ j := rfl
              rw [hyo]
              split at hrx
              · split at hrx
                · rename_i hb; rw [if_pos hb]; exact aExec_apps hx1 news hrx
                · rename_i hb; rw [if_neg hb]; cases hrx; rfl
              · cases hrx; rfl
              · cases hrx
          rw [← e0]
          exact stepR_same (fun t ht => (gyx ry t ht)) (by rw [objs_res, hnew])
        exact ⟨_, _, by rw [astep_eq, hy0]; rfl, by rw [astep_eq, this]; rfl, fin ry (rx.1, σ.objs ++ news) rfl rfl hnew.symm⟩
      have oy : ry.2 = σ.objs := stepR_reads hy1 hy0
      have : astepR T tbl ops x (σ.res y.dst ry) = some rx := by
        rw [← hrx]; exact stepR_same (gyx ry) (by rw [objs_res, oy])
      refine ⟨_, _, by rw [astep_eq, hy0]; rfl, by rw [astep_eq, this]; rfl, fin ry _ rfl rfl (by rw [ox, oy])⟩
  · have hy0 : opK tbl y.op = 0 := by omega
    have oy : ry.2 = rx.2 := (stepR_reads (by omega) hry).trans (objs_res _ _ _)
    have hys := stepR_pure (T := T) (tbl := tbl) hy0 (τ := σ) gxy hry
    have : astepR T tbl ops x (σ.res y.dst (ry.1, σ.objs)) = some rx := by
      rw [← hrx]; exact stepR_same (gyx _) (by rw [objs_res])
    refine ⟨_, _, by rw [astep_eq, hys]; rfl, by rw [astep_eq, this]; rfl, fin (ry.1, σ.objs) _ rfl rfl oy.symm⟩

/-- An operation that has nothing to do with those ahead of it may go first. -/
theorem steps_front : ∀ (A : List Oper) (y : Oper) (B : List Oper) {σ τ : AS}, (∀ x ∈ A, commB tbl ops x y = true) → asteps T tbl ops (A ++ y :: B) σ = some τ →
    ∃ τ', asteps T tbl ops (y :: (A ++ B)) σ = some τ' ∧ Eqv τ τ' := by
  intro A
  induction A with
  | nil => intro y B σ τ _ h; exact ⟨τ, h, .refl _⟩
  | cons x A ih =>
    intro y B σ τ hc h
    simp only [List.cons_append, asteps] at h
    cases h1 : astep T tbl ops x σ with
    | none => rw [h1] at h; cases h
    | some σ1 =>
      rw [h1] at h
      obtain ⟨τ1, h2, e1⟩ := ih y B (fun z hz => hc z (List.mem_cons_of_mem _ hz)) h
      simp only [asteps] at h2
      cases h3 : astep T tbl ops y σ1 with
      | none => rw [h3] at h2; cases h2
      | some σ2 =>
        rw [h3] at h2
        obtain ⟨υ1, υ2, h4, h5, e2⟩ := step_comm (hc x (List.mem_cons_self ..)) h1 h3
        obtain ⟨τ2, h6, e3⟩ := Eqv.steps _ e2 h2
        refine ⟨τ2, ?_, e1.trans e3⟩
        simp only [List.cons_append, asteps, h4, Option.bind_some, h5]
        exact h6

end

end Go.AI
