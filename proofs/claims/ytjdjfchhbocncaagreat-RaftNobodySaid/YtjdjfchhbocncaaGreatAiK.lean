/- A call that is given some objects: what it makes of them, the caller's own numbers again. -/
import Derived.Test.YtjdjfchhbocncaaGreatAiJ
namespace Go.AI
set_option linter.unusedVariables false

theorem allId_true : ∀ (x : AV), x.allId (fun _ => true) = true
  | .d _ | .rptr _ _ | .ar _ | .nils | .skip | .undef | .ub | .uc | .win .. | .ptr .. | .mp .. => rfl
  | .agg cs | .tup cs | .fn _ cs => go cs
where
  go : ∀ (cs : List AV), allIdL (fun _ => true) cs = true
    | [] => rfl
    | v :: l => by simp only [allIdL, allId_true v, go l, Bool.and_self]

def backN (n : Nat) (locs : List Nat) (j : Nat) : Nat := match locs[j]? with | some id => id | none => n + (j - locs.length)

def backA (f : Nat → Nat) (locs : List Nat) (ol : List AObj) : Nat → List AObj → List AObj
  | _, [] => []
  | i, o :: l => (match inL locs i with | true => (ol.getD (idx locs i) default).ren f | false => o) :: backA f locs ol (i + 1) l

def backO (objs : List AObj) (locs : List Nat) (ol : List AObj) : List AObj :=
  backA (backN objs.length locs) locs ol 0 objs ++ (ol.drop locs.length).map (AObj.ren (backN objs.length locs))

def srcN (n : Nat) (locs : List Nat) (id : Nat) : Option Nat :=
  if id < n then (if inL locs id = true then some (idx locs id) else none) else some (locs.length + (id - n))

def backR (n : Nat) (locs : List Nat) (ρ ρl : Nat → Option (Nat × Nat)) (id : Nat) : Option (Nat × Nat) :=
  match srcN n locs id with
  | some j => ρl j
  | none => ρ id

theorem backA_length (f : Nat → Nat) (locs : List Nat) (ol : List AObj) : ∀ (l : List AObj) (i : Nat), (backA f locs ol i l).length = l.length := by
  intro l
  induction l with
  | nil => intro i; rfl
  | cons o l ih => intro i; simp [backA, ih]

theorem backA_get (f : Nat → Nat) (locs : List Nat) (ol : List AObj) : ∀ (l : List AObj) (i k : Nat), (backA f locs ol i l)[k]? = (l[k]?).map fun o => if inL locs (i + k) = true then (ol.getD (idx locs (i + k)) default).ren f else o := by
  intro l
  induction l with
  | nil => intro i k; simp [backA]
  | cons o l ih =>
    intro i k
    cases k with
    | zero => simp only [backA, Nat.add_zero, List.getElem?_cons_zero, Option.map_some]; cases inL locs i <;> rfl
    | succ k => simp only [backA, List.getElem?_cons_succ, ih]; rw [show i + 1 + k = i + (k + 1) by omega]

section
variable {objs ol : List AObj} {locs : List Nat} {F F2 : Fr} {ρ ρl : Nat → Option (Nat × Nat)} {w w' : World}

theorem backO_get (hl : locOk objs locs = true) (hk : locs.length ≤ ol.length) (id : Nat) :
    (backO objs locs ol)[id]? = match srcN objs.length locs id with | some j => (ol[j]?).map (AObj.ren (backN objs.length locs)) | none => objs[id]? := by
  unfold backO srcN
  by_cases h : id < objs.length
  · rw [if_pos h, List.getElem?_append_left (by rw [backA_length]; exact h), backA_get, Nat.zero_add]
    by_cases hi : inL locs id = true
    · rw [if_pos hi]
      have h1 : idx locs id < ol.length := by
        have := (List.getElem?_eq_some_iff.1 (idx_get (inL_iff.1 hi))).1
        omega
      simp [h, hi, h1, List.getD_eq_getElem?_getD]
    · rw [if_neg hi]
      simp [h, hi]
  · rw [if_neg h, List.getElem?_append_right (by rw [backA_length]; omega), backA_length, List.getElem?_map, List.getElem?_drop]

theorem src_back (hl : locOk objs locs = true) (j : Nat) : srcN objs.length locs (backN objs.length locs j) = some j := by
  unfold backN srcN
  cases hj : locs[j]? with
  | some id =>
    obtain ⟨o, h1, _, _⟩ := locOk_spec hl (List.mem_of_getElem? hj)
    have h2 : id < objs.length := (List.getElem?_eq_some_iff.1 h1).1
    have hn : nodupL locs = true := by simp only [locOk, Bool.and_eq_true] at hl; exact hl.1
    simp only [h2, if_true, inL_iff.2 (List.mem_of_getElem? hj), idx_nodup hn hj]
  | none =>
    have h2 : locs.length ≤ j := List.getElem?_eq_none_iff.1 hj
    simp only
    rw [if_neg (by omega)]
    congr 1
    omega

theorem src_inj (hl : locOk objs locs = true) {id id' j : Nat} (h : srcN objs.length locs id = some j) (h' : srcN objs.length locs id' = some j) : id = id' := by
  unfold srcN at h h'
  have key : ∀ x, inL locs x = true → locs[idx locs x]? = some x := fun x hx => idx_get (inL_iff.1 hx)
  split at h
  · split at h
    · rename_i h1 h2
      cases h
      have k1 := key id h2
      have k2 := (List.getElem?_eq_some_iff.1 k1).1
      split at h'
      · split at h'
        · rename_i h3 h4
          injection h' with h'
          have k3 := key id' h4
          rw [h', k1] at k3
          exact Option.some.inj k3
        · cases h'
      · injection h' with h'; omega
    · cases h
  · cases h
    split at h'
    · split at h'
      · rename_i h3 h4
        injection h' with h'
        have k2 := (List.getElem?_eq_some_iff.1 (key id' h4)).1
        omega
      · cases h'
    · injection h' with h'; omega

theorem src_none {n : Nat} {id : Nat} (h : srcN n locs id = none) : id ∉ locs := by
  unfold srcN at h
  split at h
  · split at h
    · cases h
    · rename_i h2; exact fun h3 => h2 (inL_iff.2 h3)
  · cases h

theorem src_mem (hl : locOk objs locs = true) {id : Nat} (h : id ∈ locs) : srcN objs.length locs id = some (idx locs id) := by
  obtain ⟨o, h1, _, _⟩ := locOk_spec hl h
  unfold srcN
  rw [if_pos (List.getElem?_eq_some_iff.1 h1).1, if_pos (inL_iff.2 h)]

/-- The frame that a call works in. -/
def callF (F : Fr) (ρ : Nat → Option (Nat × Nat)) (objs : List AObj) (locs : List Nat) (w : World) : Fr :=
  ⟨0, [], fun b => Wrt F ρ objs b ∧ b < w.heap.size ∧ ∀ id δ, id ∈ locs → ρ id ≠ some (b, δ), fun b => ∃ id δ, id ∈ locs ∧ ρ id = some (b, δ), w, locO objs locs, locR ρ locs⟩

theorem RelH.enter (hl : locOk objs locs = true) (h : RelH F ρ objs w) :
    RelH (callF F ρ objs locs w) (locR ρ locs) (locO objs locs) w ∧ ∀ b, Wrt (callF F ρ objs locs w) (locR ρ locs) (locO objs locs) b → Wrt F ρ objs b :=
  h.loc hl (fun b hb => hb.1) (fun id b δ hid hr => ⟨fun hb => hb.2.2 id δ hid hr, .inl ⟨id, δ, hid, hr⟩⟩) (fun b hb => hb.2.1) (Frm.refl _ _) (Ext.refl _ _)

theorem RelO.lt {Wr : Nat → Prop} {id : Nat} {o : AObj} {b δ : Nat} (h : RelO w Wr ρ objs id o) (hr : ρ id = some (b, δ)) : b < w.heap.size := by
  have := h.lies
  rw [hr] at this
  exact this.lt

theorem RelH.back (hl : locOk objs locs = true) (h : RelH F ρ objs w) (hc : RelH (callF F ρ objs locs w) ρl ol w') :
    RelH F (backR objs.length locs ρ ρl) (backO objs locs ol) w' ∧ Frm (Wrt F ρ objs) w w' ∧ Ext objs ρ (backO objs locs ol) (backR objs.length locs ρ ρl) ∧
    (∀ b, b < w.heap.size → ¬ Wrt F ρ objs b → ¬ Wrt F (backR objs.length locs ρ ρl) (backO objs locs ol) b) ∧
    (∀ x v, RelV w' (Wrt (callF F ρ objs locs w) ρl ol) ρl ol x v → RelV w' (Wrt F (backR objs.length locs ρ ρl) (backO objs locs ol)) (backR objs.length locs ρ ρl) (backO objs locs ol) (x.ren (backN objs.length locs)) v) := by
  have he : Ext (locO objs locs) (locR ρ locs) ol ρl := hc.ext
  have hk : locs.length ≤ ol.length := by
    cases hn : locs.length with
    | zero => omega
    | succ m =>
      have h1 : m < (locO objs locs).length := by simp [locO, hn]
      obtain ⟨o', ho', _⟩ := he.ext m _ (List.getElem?_eq_getElem h1)
      have := (List.getElem?_eq_some_iff.1 ho').1
      omega
  have hsub : ∀ b, (callF F ρ objs locs w).Bor b → Wrt F ρ objs b := by
    rintro b ⟨id, δ, hid, hr⟩
    obtain ⟨o, h1, _, _⟩ := locOk_spec hl hid
    exact .inr ⟨id, o, δ, h1, hr⟩
  have hfrm : Frm (Wrt F ρ objs) w w' := hc.frm.mono fun b _ hb => hsub b hb
  -- an object of the caller that the call was not given
  have hoth : ∀ id o b δ, srcN objs.length locs id = none → objs[id]? = some o → ρ id = some (b, δ) → (callF F ρ objs locs w).Am b := by
    intro id o b δ hs ho hr
    refine ⟨.inr ⟨id, o, δ, ho, hr⟩, (h.ob id o ho).lt hr, fun id' δ' hid' hr' => ?_⟩
    obtain ⟨o', h1, _, _⟩ := locOk_spec hl hid'
    have := h.inj id id' o o' b δ δ' ho h1 hr hr'
    subst this
    exact src_none hs hid'
  have hget := backO_get (objs := objs) (ol := ol) hl hk
  -- what is written is what the call writes
  have hW : ∀ b, Wrt F (backR objs.length locs ρ ρl) (backO objs locs ol) b → Wrt (callF F ρ objs locs w) ρl ol b := by
    rintro b (hb | ⟨id, o, δ, ho, hr⟩)
    · refine .inl ⟨.inl hb, Nat.lt_of_lt_of_le (h.am b hb) h.frm.size, fun id δ hid hr => ?_⟩
      obtain ⟨o', h1, _, _⟩ := locOk_spec hl hid
      exact (h.own id o' b δ h1 hr).1 hb
    · rw [hget] at ho
      unfold backR at hr
      cases hs : srcN objs.length locs id with
      | none => rw [hs] at ho hr; exact .inl (hoth id o b δ hs ho hr)
      | some j =>
        rw [hs] at ho hr
        simp only [Option.map_eq_some_iff] at ho
        obtain ⟨o1, h1, _⟩ := ho
        exact .inr ⟨j, o1, δ, h1, hr⟩
  have hnw : ∀ b, b < w.heap.size → ¬ Wrt F ρ objs b → ¬ Wrt F (backR objs.length locs ρ ρl) (backO objs locs ol) b := by
    intro b hb hn hw
    rcases hW b hw with hA | ⟨j, o, δ, hj, hr⟩
    · exact hn hA.1
    · rcases (hc.own j o b δ hj hr).2 with h2 | h2
      · exact hn (hsub b h2)
      · exact absurd hb (Nat.not_lt.2 h2)
  have hext : Ext objs ρ (backO objs locs ol) (backR objs.length locs ρ ρl) := by
    refine ⟨fun id o ho => ?_⟩
    rw [hget]
    unfold backR
    cases hs : srcN objs.length locs id with
    | none => exact ⟨o, ho, Nat.le_refl _, fun _ => ⟨rfl, rfl, rfl⟩⟩
    | some j =>
      have hid : id ∈ locs := by
        unfold srcN at hs
        rw [if_pos (List.getElem?_eq_some_iff.1 ho).1] at hs
        split at hs
        · rename_i h2; exact inL_iff.1 h2
        · cases hs
      have hj := src_mem hl hid
      rw [hs] at hj
      cases hj
      obtain ⟨o1, h1, _, h3⟩ := locOk_spec hl hid
      rw [ho] at h1; cases h1
      obtain ⟨o', ho', hle, hsame⟩ := he.ext _ _ h3
      refine ⟨o'.ren (backN objs.length locs), by simp [ho'], by rw [AObj.ren_gen] at hle ⊢; exact hle, fun hg => ?_⟩
      rw [AObj.ren_gen] at hg
      obtain ⟨a, b, c⟩ := hsame (by rw [AObj.ren_gen]; exact hg)
      refine ⟨by rw [AObj.ren_sz] at a ⊢; exact a, by rw [AObj.ren_rows] at b ⊢; exact b, ?_⟩
      show ρl (idx locs id) = ρ id
      rw [c]
      simp [locR, idx_get hid]
  have hval : ∀ x v, RelV w' (Wrt (callF F ρ objs locs w) ρl ol) ρl ol x v → RelV w' (Wrt F (backR objs.length locs ρ ρl) (backO objs locs ol)) (backR objs.length locs ρ ρl) (backO objs locs ol) (x.ren (backN objs.length locs)) v := by
    intro x v hx
    refine hx.ren (p := fun _ => true) (allId_true x) (fun j o _ hj => ?_) (fun b _ hn hw => hn (hW b hw))
    refine ⟨o.ren (backN objs.length locs), ?_, AObj.ren_gen _ _, AObj.ren_sz _ _, AObj.ren_rows _ _, ?_⟩
    · rw [hget, src_back hl]; simp [hj]
    · unfold backR; rw [src_back hl]
  refine ⟨⟨fun id o ho => ?_, fun id id' o o' b δ δ' ho ho' hr hr' => ?_, fun id o b δ ho hr => ?_, h.am, h.frm.trans hc.frm fun x hx hb => ?_, h.ext.trans hext⟩, hfrm, hext, hnw, hval⟩
  · rw [hget] at ho
    cases hs : srcN objs.length locs id with
    | none =>
      rw [hs] at ho
      obtain ⟨hrow, hlies⟩ := h.ob id o ho
      refine ⟨hrow, ?_⟩
      have e : backR objs.length locs ρ ρl id = ρ id := by unfold backR; rw [hs]
      rw [e]
      cases hρ : ρ id with
      | none => rw [hρ] at hlies; exact hlies
      | some bd =>
        obtain ⟨b, δ⟩ := bd
        rw [hρ] at hlies
        have hA := hoth id o b δ hs ho hρ
        have hsame : w'.heap[b]? = w.heap[b]? := hc.frm.same b hA.2.1 (by rintro ⟨id', δ', hid', hr'⟩; exact hA.2.2 id' δ' hid' hr')
        exact hlies.stay hsame hfrm hnw hext
    | some j =>
      rw [hs] at ho
      simp only [Option.map_eq_some_iff] at ho
      obtain ⟨o1, h1, rfl⟩ := ho
      obtain ⟨hrow, hlies⟩ := hc.ob j o1 h1
      refine ⟨ren_rowsz _ hrow, ?_⟩
      have e : backR objs.length locs ρ ρl id = ρl j := by unfold backR; rw [hs]
      rw [e]
      cases hρ : ρl j with
      | none => rw [hρ] at hlies; exact AObj.ren_nil _ hlies
      | some bd =>
        obtain ⟨b, δ⟩ := bd
        rw [hρ] at hlies
        by_cases hm : o1.isMap = true
        · obtain ⟨l, g, es, k, rfl, k1, k2⟩ := hlies.map hm
          refine ⟨es, k, k1, k2.st, by rw [renM_eq, List.length_map]; exact k2.len, fun i x e hx he => ?_⟩
          rw [renM_eq, List.getElem?_map] at hx
          cases hy : l[i]? with
          | none => rw [hy] at hx; cases hx
          | some y =>
            rw [hy] at hx
            cases hx
            obtain ⟨k3, k4⟩ := k2.each i y e hy he
            exact ⟨k3, hval _ _ k4⟩
        have hm : o1.isMap = false := by simpa using hm
        obtain ⟨c, ty, f, k1, k2, k3, k4⟩ := hlies.cells hm
        refine .mk (by rw [AObj.ren_isMap]; exact hm) ⟨c, ty, f, k1, k2, by rw [AObj.ren_rows, AObj.ren_sz]; exact k3, fun i k hi hk => ?_⟩
        rw [AObj.ren_rows] at hi
        rw [AObj.ren_sz] at hk ⊢
        rw [acell_ren]
        exact hval _ _ (k4 i k hi hk)
  · rw [hget] at ho ho'
    unfold backR at hr hr'
    cases hs : srcN objs.length locs id with
    | none =>
      rw [hs] at ho hr
      cases hs' : srcN objs.length locs id' with
      | none => rw [hs'] at ho' hr'; exact h.inj id id' o o' b δ δ' ho ho' hr hr'
      | some j' =>
        rw [hs'] at ho' hr'
        simp only [Option.map_eq_some_iff] at ho'
        obtain ⟨o1, h1, _⟩ := ho'
        exact absurd (hoth id o b δ hs ho hr) (hc.own j' o1 b δ' h1 hr').1
    | some j =>
      rw [hs] at ho hr
      simp only [Option.map_eq_some_iff] at ho
      obtain ⟨o1, h1, _⟩ := ho
      cases hs' : srcN objs.length locs id' with
      | none => rw [hs'] at ho' hr'; exact absurd (hoth id' o' b δ' hs' ho' hr') (hc.own j o1 b δ h1 hr).1
      | some j' =>
        rw [hs'] at ho' hr'
        simp only [Option.map_eq_some_iff] at ho'
        obtain ⟨o2, h2, _⟩ := ho'
        have := hc.inj j j' o1 o2 b δ δ' h1 h2 hr hr'
        subst this
        exact src_inj hl hs hs'
  · rw [hget] at ho
    unfold backR at hr
    cases hs : srcN objs.length locs id with
    | none => rw [hs] at ho hr; exact h.own id o b δ ho hr
    | some j =>
      rw [hs] at ho hr
      simp only [Option.map_eq_some_iff] at ho
      obtain ⟨o1, h1, _⟩ := ho
      obtain ⟨ha, hb⟩ := hc.own j o1 b δ h1 hr
      rcases hb with ⟨id', δ', hid', hr'⟩ | hb
      · obtain ⟨o2, h2, _, _⟩ := locOk_spec hl hid'
        exact h.own id' o2 b δ' h2 hr'
      · have hb' : w.heap.size ≤ b := hb
        have := h.frm.size
        exact ⟨fun hA => by have := h.am b hA; omega, .inr (by omega)⟩
  · obtain ⟨id', δ', hid', hr'⟩ := hb
    obtain ⟨o2, h2, _, _⟩ := locOk_spec hl hid'
    rcases (h.own id' o2 x δ' h2 hr').2 with h3 | h3
    · exact h3
    · omega
end

end Go.AI
