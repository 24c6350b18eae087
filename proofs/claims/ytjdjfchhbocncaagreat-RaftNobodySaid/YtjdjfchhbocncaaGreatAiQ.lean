/- Arrays that nobody changes any more are data; contracts whose results are such. -/
import Derived.Test.YtjdjfchhbocncaaGreatAiL
namespace Go.AI
set_option linter.unusedVariables false

/-- What a result is, when nobody holds its arrays any more. -/
def frz1 (ob : List AObj) : AV → AV
  | .win id off len gen => match ob[id]? with
    | some (.arr rs n g) => match decide (gen = g) && decide (0 < n) with
      | true => .d (.sl ((rs.drop off).take len))
      | false => .undef
    | _ => .undef
  | .nils => .d (.sl [])
  | v => v

theorem frz1_ok {F : Fr} {ρ : Nat → Option (Nat × Nat)} {objs : List AObj} {w : World} (h : RelH F ρ objs w) {x : AV} {v : Value} (hv : RelV w (Wrt F ρ objs) ρ objs x v) (hc : (frz1 objs x).closed = true) :
    RelV w F.Am (fun _ => none) [] (frz1 objs x) v := by
  have low : x.closed = true → RelV w F.Am (fun _ => none) [] x v := fun hx => hv.lift hx fun b _ hn ha => hn (.inl ha)
  cases x with
  | win id off len gen =>
    clear hc low
    unfold frz1
    simp only
    split
    · rename_i rs n g ho
      split
      · rename_i hd
        simp only [Bool.and_eq_true, decide_eq_true_eq] at hd
        exact .d _ _ (freeze_ok h ho hd.1 hd.2 hv (fun b hb => .inl hb) (fun b δ hρ => (h.own id _ b δ ho hρ).1))
      · exact .undef v
    · exact .undef v
  | nils => cases hv with | nils => exact .d _ _ (.sl0 none 0)
  | d x => exact low hc
  | ptr id gen row col => simp [frz1, AV.closed] at hc
  | rptr r j => exact low hc
  | agg cs => exact low hc
  | ar ds => exact low hc
  | tup cs => exact low hc
  | fn f cs => exact low hc
  | skip => exact low hc
  | undef => exact low hc
  | ub => exact low hc
  | uc => exact low hc
  | mp id gen => simp [frz1, AV.closed] at hc

def frz2 (ob : List AObj) : AV → AV
  | .agg cs => .agg (cs.map (frz1 ob))
  | v => frz1 ob v

theorem frz_cells {F : Fr} {ρ : Nat → Option (Nat × Nat)} {objs : List AObj} {w : World} {f : AV → AV} (hf : ∀ {x : AV} {v : Value}, RelV w (Wrt F ρ objs) ρ objs x v → (f x).closed = true → RelV w F.Am (fun _ => none) [] (f x) v)
    {cs : List AV} {vs : Array Value} (hl : cs.length = vs.size) (hr : ∀ i, i < cs.length → RelV w (Wrt F ρ objs) ρ objs (cs.getD i .undef) (vs.getD i undef)) (hc : closedL (cs.map f) = true) :
    (cs.map f).length = vs.size ∧ ∀ i, i < (cs.map f).length → RelV w F.Am (fun _ => none) [] ((cs.map f).getD i .undef) (vs.getD i undef) := by
  refine ⟨by simpa using hl, fun i hi => ?_⟩
  have hi' : i < cs.length := by simpa using hi
  have e : (cs.map f).getD i .undef = f (cs.getD i .undef) := by simp [List.getD_eq_getElem?_getD, hi']
  rw [e]
  exact hf (hr i hi') (by rw [← e]; exact closed_get hc hi)

theorem frz2_ok {F : Fr} {ρ : Nat → Option (Nat × Nat)} {objs : List AObj} {w : World} (h : RelH F ρ objs w) {x : AV} {v : Value} (hv : RelV w (Wrt F ρ objs) ρ objs x v) (hc : (frz2 objs x).closed = true) :
    RelV w F.Am (fun _ => none) [] (frz2 objs x) v := by
  cases x with
  | agg cs =>
    cases hv with
    | agg _ vs hl hr =>
      obtain ⟨h1, h2⟩ := frz_cells (f := frz1 objs) (fun hx hc => frz1_ok h hx hc) hl hr hc
      exact .agg _ vs h1 h2
  | _ => exact frz1_ok h hv hc

def frz (ob : List AObj) : AV → AV
  | .tup vs => .tup (vs.map (frz2 ob))
  | v => frz2 ob v

theorem frz_ok {F : Fr} {ρ : Nat → Option (Nat × Nat)} {objs : List AObj} {w : World} (h : RelH F ρ objs w) {x : AV} {v : Value} (hv : RelV w (Wrt F ρ objs) ρ objs x v) (hc : (frz objs x).closed = true) :
    RelV w F.Am (fun _ => none) [] (frz objs x) v := by
  cases x with
  | tup cs =>
    cases hv with
    | tup _ vs hl hr =>
      obtain ⟨h1, h2⟩ := frz_cells (f := frz2 objs) (fun hx hc => frz2_ok h hx hc) hl hr hc
      exact .tup _ vs h1 h2
  | _ => exact frz2_ok h hv hc

def resKF (T : Nat → Option TY) (rs : List ResultVar) (r : AV) : Exit → AS → Prop
  | .normal, σ => resW T σ rs (fun v => see v fun v => frz σ.objs v = r)
  | .ret, σ => resW T σ rs (fun v => see v fun v => frz σ.objs v = r)
  | _, _ => False

theorem fnF_of' {P : Program} {T : Nat → Option TY} (hT : TOk P T) {f : Nat} {fn : Func} {c : Code} (hf : P.funcs[f]? = some fn) (hb : fn.body = some c)
    {args : List AV} {r : AV} (hargs : args.length ≤ fn.ntmps) (hcl : r.closed = true)
    (h : RW P fn.ntmps c (resKF T fn.results.toList r) ⟨ini 0 args, []⟩) : Fn0 P f args r := by
  intro Am w cargs hAm hsz hrel
  rw [← callsIn_wide (n := 9)]
  refine callsIn_of_wp_marks hf hb trivial ?_
  let F : Fr := ⟨fn.ntmps, [], Am, fun _ => False, w, [], fun _ => none⟩
  let ρ : Nat → Option (Nat × Nat) := fun _ => none
  have hW : ∀ b, Wrt F ρ [] b ↔ Am b := fun b => ⟨fun h => h.elim id fun ⟨_, _, _, h, _⟩ => (by simp at h), Or.inl⟩
  have hstart : Rel F ρ ⟨ini 0 args, []⟩ { tmps := cargs ++ Array.replicate (fn.ntmps - cargs.size) undef, defers := [] } w := by
    refine ⟨by simp [F, hsz]; omega, Marks.nil rfl, fun t => ?_, ⟨fun id o ho => (by simp at ho), fun id id' o o' b δ δ' ho => (by simp at ho), fun id o b δ ho => (by simp at ho), hAm, Frm.refl _ _, Ext.refl _ _⟩⟩
    show RelV w _ ρ [] (look (ini 0 args) t) _
    rw [look_ini, if_pos (Nat.zero_le _), Nat.sub_zero, arr_getD_append]
    by_cases h1 : t < cargs.size
    · rw [if_pos h1]
      exact (hrel t (by omega)).stay (Frm.refl _ _) (fun b _ hn hw => hn ((hW b).1 hw)) (Ext.refl _ _)
    · rw [if_neg h1]
      have : args.getD t .undef = .undef := by simp [List.getD_eq_getElem?_getD, List.getElem?_eq_none (show args.length ≤ t by omega)]
      rw [this]
      exact .undef _
  refine wpIn_mono (h.ok F ρ _ w rfl hstart) ?_
  intro e a' w' hp
  have fin : ∀ (σ : AS) (ρ' : Nat → Option (Nat × Nat)), resW T σ fn.results.toList (fun v => see v fun v => frz σ.objs v = r) → Rel F ρ' σ a' w' →
      LeavesInM Fence.wide 9 P fn a'.tmps (fun e w' => ∃ v, e = .returned v ∧ RelV w' Am (fun _ => none) [] r v ∧ Frm (fun _ => False) w w') a'.defers .returning w' := by
    intro σ ρ' hq hr0
    refine fin_ok rfl hr0 fun w' hr => ?_
    obtain ⟨v, hv, hsee⟩ := resW_elim hq
    have := see_elim hsee
    subst this
    obtain ⟨cv, hrun, hrv⟩ := results_ok hT hr hv
    exact ⟨cv, hrun, cv, rfl, frz_ok hr.hp hrv hcl, hr.hp.frm⟩
  cases e with
  | normal => obtain ⟨σ, ρ', hq, hr⟩ := hp; exact fin σ ρ' hq hr
  | ret => obtain ⟨σ, ρ', hq, hr⟩ := hp; exact fin σ ρ' hq hr
  | exit id => obtain ⟨σ, ρ', hq, hr⟩ := hp; exact hq.elim
  | goto l => obtain ⟨σ, ρ', hq, hr⟩ := hp; exact hq.elim
  | panic c => exact hp.elim
  | outgrown => exact hp.elim

theorem fnF_of {P : Program} {T : Nat → Option TY} {tbl : Tbl} (hT : TOk P T) (ht : TblOk P tbl) (hmix : P.follows .mixedOrders = true) {f : Nat} {fn : Func} {c : Code} (hf : P.funcs[f]? = some fn) (hb : fn.body = some c)
    (hok : codeOk tbl fn.ntmps c = true) {args : List AV} {r : AV} (hargs : args.length ≤ fn.ntmps) (hcl : r.closed = true)
    (h : rwp T tbl (strip tbl c) (resKF T fn.results.toList r) ⟨ini 0 args, []⟩) : Fn0 P f args r :=
  fnF_of' hT hf hb hargs hcl (.of hT ht hmix hok h)

/-- As 'spec_of': arrays in the result become data. -/
theorem specF_of {P : Program} {T : Nat → Option TY} {tbl : Tbl} (hT : TOk P T) (ht : TblOk P tbl) (hmix : P.follows .mixedOrders = true) {f : Nat} {fn : Func} {c : Code} (hf : P.funcs[f]? = some fn)
    (hname : (fn.name == "runtime.NumGoroutine") = false) (hb : fn.body = some c) (hok : codeOk tbl fn.ntmps c = true) {S : List AV → Option AV}
    (h : ∀ args r, S args = some r → args.length ≤ fn.ntmps ∧ closedL args = true ∧ r.closed = true ∧ rwp T tbl (strip tbl c) (resKF T fn.results.toList r) ⟨ini 0 args, []⟩) : SpecOk P f S := by
  intro args r hs
  obtain ⟨h1, h2, h3, h4⟩ := h args r hs
  refine ⟨fun cargs w => ?_, fun i hi => closed_get h2 hi, fnF_of hT ht hmix hf hb hok h1 h3 h4⟩
  have hn : fn.name ≠ "runtime.NumGoroutine" := by simpa using hname
  simp [callFunc, hf, hn, hb, mark]

end Go.AI
