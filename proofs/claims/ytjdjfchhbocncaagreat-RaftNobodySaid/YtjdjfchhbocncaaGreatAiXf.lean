/- Functions that are run outright: calls of calls, and that each such run is a contract. -/
import Derived.Test.YtjdjfchhbocncaaGreatAiXe
namespace Go.AI
set_option linter.unusedVariables false

/-- A program, as far as it is run: its functions, its types, what is known of some functions, and which these are; how much may be spent in one text. -/
structure XE where
  P : Program
  T : Nat → Option TY
  base : Tbl
  own : Nat → Bool
  fn : Nat → Option Func
  fuel : Nat
  ro : Nat → Bool
  ex : Nat → Bool
  itx : Nat → List AV → List AObj → Option (List (List AV))

def XE.tbl (E : XE) (call : Nat → List AV → List AObj → Option (AV × List AObj)) : Tbl :=
  { E.base with
    k := fun g => match E.own g with
      | true => E.base.k g
      | false => true
    o := fun g args objs => match E.own g with
      | true => E.base.o g args objs
      | false => call g args objs
    r := E.ro
    x := E.ex }

def finX (k : Nat) (v : AV) (ob : List AObj) : Option (AV × List AObj) :=
  match locOk ob (keepL k v ob) && v.allId (inL (keepL k v ob)) && prefB 0 k (keepL k v ob) with
  | true => nfV (v.ren (idx (keepL k v ob))) fun v' => nfOs (locO ob (keepL k v ob)) fun ob' => some (v', ob')
  | false => none

/-- A call is run. -/
def XE.call (E : XE) : Nat → Nat → List AV → List AObj → Option (AV × List AObj)
  | 0, _, _, _ => none
  | n + 1, g, args, objs => match E.fn g with
    | none => none
    | some fn => match fn.body, Nat.ble args.length fn.ntmps, fn.name == "runtime.NumGoroutine" with
      | some c, true, false => nfC args fun args => nfOs objs fun objs => match execC E.T (E.tbl (E.call n)) (regChk (E.tbl fun _ _ _ => none) fn.ntmps) E.itx E.fuel c ⟨ini 0 args, objs⟩ with
        | some (.normal, σ) => match aRes E.T σ fn.results.toList with
          | some v => finX objs.length v σ.objs
          | none => none
        | some (.ret, σ) => match aRes E.T σ fn.results.toList with
          | some v => finX objs.length v σ.objs
          | none => none
        | _ => none
      | _, _, _ => none

/-- What is owed for a program. -/
structure XE.Ok (E : XE) : Prop where
  T : TOk E.P E.T
  mix : E.P.follows .mixedOrders = true
  base : TblOk E.P E.base
  ownc : ∀ g args r, E.base.c g args = some r → E.own g = true
  it : ∀ f cap objs xs, E.itx f cap objs = some xs → ItX E.P f cap objs xs
  fn : ∀ g fn, E.fn g = some fn → E.P.funcs[g]? = some fn ∧ E.own g = false

theorem XE.Ok.tbl_ok {E : XE} (h : E.Ok) {call : Nat → List AV → List AObj → Option (AV × List AObj)} (hc : ∀ g, SpecO E.P g (call g)) : TblOk E.P (E.tbl call) := by
  refine ⟨h.base.c, fun f args objs r objs' hr => ?_, h.base.it, h.base.q⟩
  simp only [XE.tbl] at hr
  split at hr
  · exact h.base.o f args objs r objs' hr
  · exact hc f args objs r objs' hr

theorem fin_of {k : Nat} {v r : AV} {ob ob' : List AObj} (h : finX k v ob = some (r, ob')) : finO k v ob r ob' := by
  unfold finX at h
  unfold finO
  split at h
  · rename_i hc
    rw [hc]
    rw [nfV_eq, nfOs_eq] at h
    cases h
    exact ⟨rfl, rfl⟩
  · cases h

theorem see_of {v : AV} {k : AV → Prop} (h : k v) : see v k := by
  have n : ∀ (n : Nat) (k : Nat → Prop), k n → seeN n k := by
    intro n
    induction n with
    | zero => intro k h; exact h
    | succ n ih => intro k h; exact ih (fun m => k (m + 1)) h
  have l : ∀ {α : Type} (l : List α) (k : List α → Prop), k l → seeL l k := by
    intro α l
    induction l with
    | nil => intro k h; exact h
    | cons x l ih => intro k h; exact ih (fun m => k (x :: m)) h
  unfold see
  split <;> first | exact h | exact n _ (fun a => k (.win a _ _ _)) h | exact n _ (fun a => k (.ptr a _ _ _)) h | exact n _ (fun a => k (.mp a _)) h | exact l _ (fun l => k (.agg l)) h | exact l _ (fun l => k (.tup l)) h | exact l _ (fun l => k (.fn _ l)) h

theorem loadW_of {y : TY} {a : AV} {objs : List AObj} {v : AV} {k : AV → Prop} (h : loadA y a objs = some v) (hk : k v) : loadW (fun _ => false) y a objs k := by
  unfold loadA at h
  unfold loadW
  split at h
  · split at h
    · rename_i ho
      simp only [ho]
      split at h
      · rename_i hd
        simp only [hd]
        rw [okk_iff]
        exact ⟨v, h, hk⟩
      · cases h
    · rename_i ho
      simp only [ho]
      split at h
      · rename_i hn
        simp only [hn]
        split at h
        · rename_i hag
          simp only [hag]
          obtain ⟨hc, rfl⟩ := ite_some h
          exact ⟨_, ⟨hc.1, hc.2, rfl⟩, hk⟩
        · rename_i hag
          simp only [hag]
          split at h
          · rename_i hc
            refine ⟨_, ⟨hc.1, hc.2, rfl⟩, ?_⟩
            rw [okk_iff]
            exact ⟨v, h, hk⟩
          · cases h
      · rename_i hn
        simp only [hn]
        split at h
        · rename_i hc
          refine ⟨_, ⟨hc.1, hc.2, rfl⟩, ?_⟩
          rw [okk_iff]
          exact ⟨v, h, hk⟩
        · cases h
    · cases h
    · rename_i ho
      simp only [ho]
      split at h
      · rename_i hc
        refine ⟨_, ⟨hc.1, hc.2, rfl⟩, ?_⟩
        rw [okk_iff]
        exact ⟨v, h, hk⟩
      · cases h
    · cases h
  · show okk _ k
    rw [okk_iff]
    exact ⟨v, h, hk⟩
  · cases h

theorem resW1_of {T : Nat → Option TY} {σ : AS} {rv : ResultVar} {v : AV} {k : AV → Prop} (h : aRes1 T σ rv = some v) (hk : k v) : resW1 T σ rv k := by
  cases rv with
  | tmp t => cases h; exact hk
  | cell a t =>
    simp only [aRes1] at h
    simp only [resW1]
    split at h
    · exact loadW_of h hk
    · cases h

theorem resWL_of {T : Nat → Option TY} {σ : AS} : ∀ {l : List ResultVar} {vs : List AV} {k : List AV → Prop}, aResL T σ l = some vs → k vs → resWL T σ l k
  | [], vs, k, h, hk => by cases h; exact hk
  | rv :: l, vs, k, h, hk => by
    simp only [aResL] at h
    split at h
    · rename_i v vs' h1 h2
      cases h
      exact resW1_of h1 (resWL_of h2 hk)
    · cases h

theorem resW_of {T : Nat → Option TY} {σ : AS} {rs : List ResultVar} {v : AV} {k : AV → Prop} (h : aRes T σ rs = some v) (hk : k v) : resW T σ rs k := by
  unfold aRes at h
  unfold resW
  split at h
  · exact resW1_of h hk
  · rename_i hne
    split at h
    · rename_i vs hvs
      cases h
      exact resWL_of hvs hk
    · cases h

theorem XE.Ok.call_ok {E : XE} (h : E.Ok) : ∀ (n g : Nat), SpecO E.P g (E.call n g) := by
  intro n
  induction n with
  | zero => intro g args objs r objs' hr; cases hr
  | succ n ih =>
    intro g args objs r objs' hr
    simp only [XE.call] at hr
    split at hr
    · cases hr
    · rename_i fn hfn
      obtain ⟨h1, h2⟩ := h.fn g fn hfn
      split at hr
      · rename_i c hb hle hname
        refine ⟨fun cargs w => ?_, ?_⟩
        · have hn : fn.name ≠ "runtime.NumGoroutine" := by simpa using hname
          simp [callFunc, h1, hn, hb, mark]
        rw [nfC_eq, nfOs_eq] at hr
        have key : ∀ (e : Exit) (σ : AS) (v : AV), (e = .normal ∨ e = .ret) → execC E.T (E.tbl (E.call n)) (regChk (E.tbl fun _ _ _ => none) fn.ntmps) E.itx E.fuel c ⟨ini 0 args, objs⟩ = some (e, σ) → aRes E.T σ fn.results.toList = some v → finX objs.length v σ.objs = some (r, objs') →
            FnO E.P g args objs r objs' := by
          intro e σ v he hx hv hf
          refine fnO_of' h.T h1 hb (Nat.le_of_ble_eq_true hle) ⟨fun F ρ a w hF hr => ?_⟩
          refine wpIn_mono (execC_ok h.T (h.tbl_ok ih) h.mix (nt := fn.ntmps) (fun ops draw hc => hc) h.it E.fuel c wide_wide (.inr ⟨rfl, by omega⟩) hF hx hr) ?_
          have hres : resW E.T σ fn.results.toList (fun v => see v fun v => finO objs.length v σ.objs r objs') := resW_of hv (see_of (fin_of hf))
          intro e' a' w' hp
          cases e' <;> first | (exact hp.elim) | skip
          all_goals
            obtain ⟨τ, ρ', ⟨h3, rfl⟩, hr'⟩ := hp
            simp only at h3
            rcases he with rfl | rfl <;> cases h3
          · exact ⟨_, ρ', hres, hr'⟩
          · exact ⟨_, ρ', hres, hr'⟩
        split at hr
        · rename_i σ hx
          split at hr
          · rename_i v hv
            exact key _ σ v (.inl rfl) hx hv hr
          · cases hr
        · rename_i σ hx
          split at hr
          · rename_i v hv
            exact key _ σ v (.inr rfl) hx hv hr
          · cases hr
        · cases hr
      · cases hr

end Go.AI
