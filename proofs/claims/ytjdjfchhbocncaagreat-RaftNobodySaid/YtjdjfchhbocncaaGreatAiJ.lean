/- Objects under other numbers: what is said of some objects is said of them alone. -/
import Derived.Test.YtjdjfchhbocncaaGreatAiM
namespace Go.AI
set_option linter.unusedVariables false

mutual
/-- The objects that a value names, each by another number. -/
def AV.ren (f : Nat → Nat) : AV → AV
  | .d x => .d x
  | .rptr r j => .rptr r j
  | .ar ds => .ar ds
  | .nils => .nils
  | .skip => .skip
  | .undef => .undef
  | .ub => .ub
  | .uc => .uc
  | .mp id gen => .mp (f id) gen
  | .agg cs => .agg (renL f cs)
  | .tup cs => .tup (renL f cs)
  | .fn g cs => .fn g (renL f cs)
  | .win id off len gen => .win (f id) off len gen
  | .ptr id gen row col => .ptr (f id) gen row col
def renL (f : Nat → Nat) : List AV → List AV
  | [] => []
  | v :: l => v.ren f :: renL f l
end

mutual
/-- All objects that a value names are such. -/
def AV.allId (p : Nat → Bool) : AV → Bool
  | .d _ => true
  | .rptr _ _ => true
  | .ar _ => true
  | .nils => true
  | .skip => true
  | .undef => true
  | .ub => true
  | .uc => true
  | .mp id _ => p id
  | .agg cs => allIdL p cs
  | .tup cs => allIdL p cs
  | .fn _ cs => allIdL p cs
  | .win id _ _ _ => p id
  | .ptr id _ _ _ => p id
def allIdL (p : Nat → Bool) : List AV → Bool
  | [] => true
  | v :: l => v.allId p && allIdL p l
end

theorem renL_length (f : Nat → Nat) : ∀ cs : List AV, (renL f cs).length = cs.length := by
  intro cs
  induction cs with
  | nil => rfl
  | cons v l ih => simp [renL, ih]

theorem renL_getD (f : Nat → Nat) : ∀ (cs : List AV) (i : Nat), (renL f cs).getD i .undef = (cs.getD i .undef).ren f := by
  intro cs
  induction cs with
  | nil => intro i; simp [renL, AV.ren]
  | cons v l ih => intro i; cases i with
    | zero => simp [renL]
    | succ i => simpa [renL] using ih i

theorem allIdL_getD {p : Nat → Bool} : ∀ {cs : List AV} (h : allIdL p cs = true) (i : Nat), (cs.getD i .undef).allId p = true := by
  intro cs
  induction cs with
  | nil => intro _ i; simp [AV.allId]
  | cons v l ih =>
    intro h i
    simp only [allIdL, Bool.and_eq_true] at h
    cases i with
    | zero => simpa using h.1
    | succ i => simpa using ih h.2 i

theorem RelV.ren {w : World} {Wr Wr2 : Nat → Prop} {ρ ρ2 : Nat → Option (Nat × Nat)} {objs objs2 : List AObj} {f : Nat → Nat} {p : Nat → Bool} {x : AV} {v : Value} (h : RelV w Wr ρ objs x v)
    (hx : x.allId p = true) (hp : ∀ id o, p id = true → objs[id]? = some o → ∃ o2, objs2[f id]? = some o2 ∧ o2.gen = o.gen ∧ o2.sz = o.sz ∧ o2.rows.length = o.rows.length ∧ ρ2 (f id) = ρ id)
    (hw : ∀ b, b < w.heap.size → ¬ Wr b → ¬ Wr2 b) : RelV w Wr2 ρ2 objs2 (x.ren f) v := by
  induction h with
  | d x v h => exact .d x v (h.stay (fun _ _ _ => rfl) hw)
  | win id off len gen v o ho hg hs h =>
    obtain ⟨o2, h1, h2, h3, h4, h5⟩ := hp id o hx ho
    refine .win _ off len gen v o2 h1 (h2 ▸ hg) hs fun hgen => ?_
    obtain ⟨hf, q, cap, hv, hl, hq⟩ := h (h2 ▸ hgen)
    exact ⟨h4 ▸ hf, q, cap, hv, by rw [h2, h4]; exact hl, by rw [h3, h5]; exact hq⟩
  | ptr id gen row col v o ho hg hs h =>
    obtain ⟨o2, h1, h2, h3, h4, h5⟩ := hp id o hx ho
    refine .ptr _ gen row col v o2 h1 (h2 ▸ hg) hs fun hgen => ?_
    obtain ⟨b, δ, hb, hv⟩ := h (h2 ▸ hgen)
    exact ⟨b, δ, h5.trans hb, by rw [h3]; exact hv⟩
  | rptr row j b o vs h0 hb hcc hd => exact .rptr row j b o vs h0 (hw b (cell_lt (hcc 0 h0)) hb) hcc fun k hk => (hd k hk).stay (fun _ _ _ => rfl) hw
  | agg cells vs hl _ ih => 
    refine .agg _ vs (by rw [renL_length]; exact hl) fun i hi => ?_
    rw [renL_length] at hi
    rw [renL_getD]
    exact ih i hi (allIdL_getD hx i)
  | ar ds vs hl h => exact .ar ds vs hl fun i hi => (h i hi).stay (fun _ _ _ => rfl) hw
  | tup cells vs hl _ ih => 
    refine .tup _ vs (by rw [renL_length]; exact hl) fun i hi => ?_
    rw [renL_length] at hi
    rw [renL_getD]
    exact ih i hi (allIdL_getD hx i)
  | fn g cells vs hl _ ih => 
    refine .fn g _ vs (by rw [renL_length]; exact hl) fun i hi => ?_
    rw [renL_length] at hi
    rw [renL_getD]
    exact ih i hi (allIdL_getD hx i)
  | nils => exact .nils
  | skip => exact .skip
  | undef v => exact .undef v
  | ub b => exact .ub b
  | uc v h => exact .uc v h
  | mp id gen v o ho hg hs h =>
    obtain ⟨o2, h1, h2, h3, h4, h5⟩ := hp id o hx ho
    refine .mp _ gen v o2 h1 (h2 ▸ hg) hs fun hgen => ?_
    obtain ⟨b, δ, hb, hv⟩ := h (h2 ▸ hgen)
    exact ⟨b, δ, h5.trans hb, hv⟩

def renM (f : Nat → Nat) : List (List UInt8 × AV) → List (List UInt8 × AV)
  | [] => []
  | (k, v) :: l => (k, v.ren f) :: renM f l
def allIdM (p : Nat → Bool) : List (List UInt8 × AV) → Bool
  | [] => true
  | (_, v) :: l => v.allId p && allIdM p l

theorem renM_eq (f : Nat → Nat) : ∀ l, renM f l = l.map fun x => (x.1, x.2.ren f) := by
  intro l
  induction l with
  | nil => rfl
  | cons x l ih => obtain ⟨k, v⟩ := x; simp [renM, ih]
theorem allIdM_get {p : Nat → Bool} : ∀ {l : List (List UInt8 × AV)} (_ : allIdM p l = true) {i : Nat} {x : List UInt8 × AV}, l[i]? = some x → x.2.allId p = true := by
  intro l
  induction l with
  | nil => intro _ i x h; simp at h
  | cons y l ih =>
    obtain ⟨k, v⟩ := y
    intro h i x hx
    simp only [allIdM, Bool.and_eq_true] at h
    cases i with
    | zero => simp at hx; subst hx; exact h.1
    | succ i => exact ih h.2 (by simpa using hx)

def AObj.ren (f : Nat → Nat) : AObj → AObj
  | .var cells g => .var (renL f cells) g
  | .arr rs n g => .arr rs n g
  | .map l g => .map (renM f l) g
  | .arv cells n g => .arv (renL f cells) n g

def AObj.allId (p : Nat → Bool) : AObj → Bool
  | .var cells _ => allIdL p cells
  | .arr .. => true
  | .map l _ => allIdM p l
  | .arv cells _ _ => allIdL p cells

theorem AObj.ren_isMap (f : Nat → Nat) (o : AObj) : (o.ren f).isMap = o.isMap := by cases o <;> rfl
theorem AObj.ren_gen (f : Nat → Nat) (o : AObj) : (o.ren f).gen = o.gen := by cases o <;> rfl
theorem AObj.ren_sz (f : Nat → Nat) (o : AObj) : (o.ren f).sz = o.sz := by cases o <;> simp [AObj.ren, AObj.sz, renL_length]
theorem AObj.ren_rows (f : Nat → Nat) (o : AObj) : (o.ren f).rows.length = o.rows.length := by cases o <;> simp [AObj.ren, AObj.rows, chunks, renL_length]
theorem AObj.ren_nil (f : Nat → Nat) {o : AObj} (h : o.rows = []) : (o.ren f).rows = [] := by
  have := AObj.ren_rows f o
  rw [h] at this
  exact List.length_eq_zero_iff.1 this

theorem renL_map (f : Nat → Nat) : ∀ (l : List AV), renL f l = l.map (AV.ren f)
  | [] => rfl
  | v :: l => by simp [renL, renL_map f l]
theorem acell_ren (f : Nat → Nat) (o : AObj) (i j : Nat) : acell (o.ren f).rows i j = (acell o.rows i j).ren f := by
  cases o with
  | var cells g =>
    cases i with
    | zero => simpa [acell, AObj.ren, AObj.rows] using renL_getD f cells j
    | succ i => simp [acell, AObj.ren, AObj.rows, AV.ren]
  | arr rs n g =>
    have : ∀ (l : List D), (l.map AV.d).getD j .undef = ((l.map AV.d).getD j .undef).ren f := by
      intro l
      simp only [List.getD_eq_getElem?_getD, List.getElem?_map]
      cases l[j]? <;> simp [AV.ren]
    have h2 : ∀ (rs : List (List D)), (rs.map (·.map AV.d)).getD i [] = (rs.getD i []).map AV.d := by
      intro rs
      simp only [List.getD_eq_getElem?_getD, List.getElem?_map]
      cases rs[i]? <;> simp
    simp only [acell, AObj.ren, AObj.rows, h2]
    exact this _
  | map l g => simp [acell, AObj.ren, AObj.rows, AV.ren]
  | arv cells n g =>
    have hl : (AObj.ren f (.arv cells n g)).rows.length = (chunks n cells).length := AObj.ren_rows f (.arv cells n g)
    by_cases hi : i < (chunks n cells).length
    · by_cases hj : j < n
      · have h1 := chunks_cell (n := n) (cells := renL f cells) (i := i) (j := j) (by simpa [AObj.ren, AObj.rows] using hl ▸ hi) hj
        have h2 := chunks_cell (n := n) (cells := cells) hi hj
        simp only [AObj.ren, AObj.rows]
        rw [h1, h2, renL_getD]
      · have row : ∀ (cs : List AV), acell (chunks n cs) i j = .undef := by
          intro cs
          unfold acell
          by_cases h : i < (chunks n cs).length
          · have hm : (chunks n cs).getD i [] ∈ chunks n cs := by simp [List.getD_eq_getElem?_getD, h]
            have : ((chunks n cs).getD i []).length = n := chunks_row _ hm
            simp [List.getD_eq_getElem?_getD] at this ⊢
            rw [List.getElem?_eq_none (by omega)]; rfl
          · simp [List.getD_eq_getElem?_getD, h]
        simp only [AObj.ren, AObj.rows, row]
        rfl
    · have row : ∀ (cs : List AV), ¬ i < (chunks n cs).length → acell (chunks n cs) i j = .undef := by
        intro cs h
        unfold acell
        simp [List.getD_eq_getElem?_getD, h]
      have hi2 : ¬ i < (chunks n (renL f cells)).length := by
        intro h; exact hi (hl ▸ h)
      simp only [AObj.ren, AObj.rows, row _ hi, row _ hi2]
      rfl

theorem ren_rowsz (f : Nat → Nat) {o : AObj} (h : ∀ r ∈ o.rows, r.length = o.sz) : ∀ r ∈ (o.ren f).rows, r.length = (o.ren f).sz := by
  cases o with
  | var cells g => intro r hr; simp [AObj.ren, AObj.rows] at hr; subst hr; rfl
  | arr rs n g => exact h
  | map l g => intro r hr; simp [AObj.ren, AObj.rows] at hr
  | arv cells n g => exact chunks_row

theorem allId_acell {p : Nat → Bool} {o : AObj} (h : o.allId p = true) (i j : Nat) : (acell o.rows i j).allId p = true := by
  cases o with
  | var cells g =>
    cases i with
    | zero => simpa [acell, AObj.rows] using allIdL_getD h j
    | succ i => simp [acell, AObj.rows, AV.allId]
  | arr rs n g =>
    simp only [acell, AObj.rows, List.getD_eq_getElem?_getD, List.getElem?_map]
    cases rs[i]? with
    | none => simp [AV.allId]
    | some r =>
      simp only [Option.map_some, Option.getD_some, List.getElem?_map]
      cases r[j]? <;> simp [AV.allId]
  | map l g => simp [acell, AObj.rows, AV.allId]
  | arv cells n g =>
    simp only [acell, AObj.rows, chunks, List.getD_eq_getElem?_getD, List.getElem?_map]
    cases (List.range (cells.length / n))[i]? with
    | none => simp [AV.allId]
    | some k =>
      simp only [Option.map_some, Option.getD_some]
      have := allIdL_getD h (k * n + j)
      by_cases hj : j < n
      · rw [List.getElem?_take_of_lt hj, List.getElem?_drop]
        simpa [List.getD_eq_getElem?_getD] using this
      · rw [List.getElem?_eq_none (by simp; omega)]
        simp [AV.allId]

/-! ### Some objects alone -/

def idx : List Nat → Nat → Nat
  | [], _ => 0
  | x :: l, id => if x = id then 0 else idx l id + 1

def inL : List Nat → Nat → Bool
  | [], _ => false
  | x :: l, id => if x = id then true else inL l id

def nodupL : List Nat → Bool
  | [] => true
  | x :: l => !inL l x && nodupL l

theorem inL_iff {l : List Nat} {x : Nat} : inL l x = true ↔ x ∈ l := by
  induction l with
  | nil => simp [inL]
  | cons y l ih =>
    simp only [inL, List.mem_cons]
    by_cases h : y = x
    · simp [h]
    · rw [if_neg h, ih]; simp [Ne.symm h]

theorem idx_get {l : List Nat} {x : Nat} (h : x ∈ l) : l[idx l x]? = some x := by
  induction l with
  | nil => cases h
  | cons y l ih =>
    simp only [idx]
    by_cases e : y = x
    · simp [e]
    · rw [if_neg e]
      rcases List.mem_cons.1 h with rfl | h
      · exact absurd rfl e
      · simpa using ih h

theorem idx_nodup {l : List Nat} (h : nodupL l = true) {j x : Nat} (hj : l[j]? = some x) : idx l x = j := by
  induction l generalizing j with
  | nil => simp at hj
  | cons y l ih =>
    simp only [nodupL, Bool.and_eq_true, Bool.not_eq_true'] at h
    simp only [idx]
    cases j with
    | zero => simp at hj; simp [hj]
    | succ j =>
      simp at hj
      have hm : x ∈ l := List.mem_of_getElem? hj
      by_cases e : y = x
      · subst e
        rw [inL_iff.2 hm] at h
        simp at h
      · rw [if_neg e, ih h.2 hj]

def locO (objs : List AObj) (locs : List Nat) : List AObj := locs.map fun id => (objs.getD id default).ren (idx locs)
def locR (ρ : Nat → Option (Nat × Nat)) (locs : List Nat) : Nat → Option (Nat × Nat) := fun j => (locs[j]?).bind ρ
/-- Some objects that name no other ones. -/
def locOk (objs : List AObj) (locs : List Nat) : Bool := nodupL locs && locs.all fun id => match objs[id]? with | some o => o.allId (inL locs) | none => false

theorem locOk_spec {objs : List AObj} {locs : List Nat} (h : locOk objs locs = true) {id : Nat} (hid : id ∈ locs) : ∃ o, objs[id]? = some o ∧ o.allId (inL locs) = true ∧ (locO objs locs)[idx locs id]? = some (o.ren (idx locs)) := by
  simp only [locOk, Bool.and_eq_true, List.all_eq_true] at h
  have := h.2 id hid
  split at this
  · rename_i o ho
    refine ⟨o, ho, this, ?_⟩
    simp [locO, idx_get hid, List.getD_eq_getElem?_getD, ho]
  · cases this

theorem locO_spec {objs : List AObj} {locs : List Nat} (h : locOk objs locs = true) {j : Nat} {o' : AObj} (hj : (locO objs locs)[j]? = some o') : ∃ id o, locs[j]? = some id ∧ objs[id]? = some o ∧ o.allId (inL locs) = true ∧ o' = o.ren (idx locs) := by
  simp only [locO, List.getElem?_map] at hj
  cases hl : locs[j]? with
  | none => rw [hl] at hj; cases hj
  | some id =>
    rw [hl] at hj
    obtain ⟨o, h1, h2, _⟩ := locOk_spec h (List.mem_of_getElem? hl)
    refine ⟨id, o, rfl, h1, h2, ?_⟩
    simp [List.getD_eq_getElem?_getD, h1] at hj
    exact hj.symm

theorem RelV.loc {w : World} {Wr Wr2 : Nat → Prop} {ρ : Nat → Option (Nat × Nat)} {objs : List AObj} {locs : List Nat} (hl : locOk objs locs = true) {x : AV} {v : Value} (h : RelV w Wr ρ objs x v)
    (hx : x.allId (inL locs) = true) (hw : ∀ b, b < w.heap.size → ¬ Wr b → ¬ Wr2 b) : RelV w Wr2 (locR ρ locs) (locO objs locs) (x.ren (idx locs)) v := by
  refine h.ren hx (fun id o hid ho => ?_) hw
  obtain ⟨o1, h1, h2, h3⟩ := locOk_spec hl (inL_iff.1 hid)
  rw [ho] at h1; cases h1
  exact ⟨_, h3, AObj.ren_gen _ _, AObj.ren_sz _ _, AObj.ren_rows _ _, by simp [locR, idx_get (inL_iff.1 hid)]⟩

theorem RelH.loc {F F2 : Fr} {w : World} {ρ : Nat → Option (Nat × Nat)} {objs : List AObj} {locs : List Nat} (hl : locOk objs locs = true) (h : RelH F ρ objs w)
    (hA : ∀ b, F2.Am b → Wrt F ρ objs b) (hown : ∀ id b δ, id ∈ locs → ρ id = some (b, δ) → ¬ F2.Am b ∧ (F2.Bor b ∨ F2.w0.heap.size ≤ b)) (ham : ∀ b, F2.Am b → b < F2.w0.heap.size) (hfrm : Frm F2.Bor F2.w0 w)
    (hext : Ext F2.o0 F2.r0 (locO objs locs) (locR ρ locs)) :
    RelH F2 (locR ρ locs) (locO objs locs) w ∧ ∀ b, Wrt F2 (locR ρ locs) (locO objs locs) b → Wrt F ρ objs b := by
  have hW : ∀ b, Wrt F2 (locR ρ locs) (locO objs locs) b → Wrt F ρ objs b := by
    rintro b (hb | ⟨j, o', δ, hj, hr⟩)
    · exact hA b hb
    · obtain ⟨id, o, h1, h2, _, _⟩ := locO_spec hl hj
      exact .inr ⟨id, o, δ, h2, by simpa [locR, h1] using hr⟩
  refine ⟨⟨fun j o' hj => ?_, fun j j' o o' b δ δ' hj hj' hr hr' => ?_, fun j o b δ hj hr => ?_, ham, hfrm, hext⟩, hW⟩
  · obtain ⟨id, o, h1, h2, h3, rfl⟩ := locO_spec hl hj
    obtain ⟨hrow, hlies⟩ := h.ob id o h2
    refine ⟨ren_rowsz _ hrow, ?_⟩
    have e : locR ρ locs j = ρ id := by simp [locR, h1]
    rw [e]
    cases hρ : ρ id with
    | none => rw [hρ] at hlies; exact AObj.ren_nil _ hlies
    | some bd =>
      obtain ⟨b, δ⟩ := bd
      rw [hρ] at hlies
      by_cases hm : o.isMap = true
      · obtain ⟨l, g, es, k, rfl, k1, k2⟩ := hlies.map hm
        refine ⟨es, k, k1, k2.st, by rw [renM_eq, List.length_map]; exact k2.len, fun i x e hx he => ?_⟩
        rw [renM_eq, List.getElem?_map] at hx
        cases hy : l[i]? with
        | none => rw [hy] at hx; cases hx
        | some y =>
          rw [hy] at hx
          cases hx
          obtain ⟨k3, k4⟩ := k2.each i y e hy he
          exact ⟨k3, k4.loc hl (allIdM_get h3 hy) fun b _ hn hw => hn (hW b hw)⟩
      have hm : o.isMap = false := by simpa using hm
      obtain ⟨c, ty, f, k1, k2, k3, k4⟩ := hlies.cells hm
      refine .mk (by rw [AObj.ren_isMap]; exact hm) ⟨c, ty, f, k1, k2, by rw [AObj.ren_rows, AObj.ren_sz]; exact k3, fun i k hi hk => ?_⟩
      rw [AObj.ren_rows] at hi
      rw [AObj.ren_sz] at hk ⊢
      rw [acell_ren]
      exact (k4 i k hi hk).loc hl (allId_acell h3 i k) fun b _ hn hw => hn (hW b hw)
  · obtain ⟨id, o1, h1, h2, _, _⟩ := locO_spec hl hj
    obtain ⟨id', o2, h1', h2', _, _⟩ := locO_spec hl hj'
    have := h.inj id id' o1 o2 b δ δ' h2 h2' (by simpa [locR, h1] using hr) (by simpa [locR, h1'] using hr')
    subst this
    have hn : nodupL locs = true := by simp only [locOk, Bool.and_eq_true] at hl; exact hl.1
    exact (idx_nodup hn h1).symm.trans (idx_nodup hn h1')
  · obtain ⟨id, o1, h1, h2, _, _⟩ := locO_spec hl hj
    exact hown id b δ (List.mem_of_getElem? h1) (by simpa [locR, h1] using hr)

end Go.AI
