/- A region whose order is drawn, where the orders do not all come to the same at once: a tree of orders that stands for all. -/
import Derived.Test.YtjdjfchhbocncaaGreatAiG
namespace Go.AI
set_option linter.unusedVariables false

/-- The edges go back, and what stands ahead stands ahead of it by edges. -/
def regWf (ops : Array Oper) : Bool :=
  (List.range ops.size).all fun i =>
    decide ((bef ops).getD i 0 < 2 ^ i) && ((ops.getD i default).after.toList.all fun e => !Region.binds .any e || decide (e.on < i)) &&
    (List.range i).all fun j =>
      if ((bef ops).getD i 0).testBit j then (ops.getD i default).after.toList.any fun e => Region.binds .any e && (e.on == j || ((bef ops).getD e.on 0).testBit j)
      else true

theorem regWf_spec {ops : Array Oper} (h : regWf ops = true) {i : Nat} {o : Oper} (ho : ops[i]? = some o) :
    (∀ e ∈ o.after, Region.binds .any e = true → e.on < i) ∧
    (∀ j, ordB ops j i = true → j < i ∧ ∃ e ∈ o.after, Region.binds .any e = true ∧ (e.on = j ∨ ordB ops j e.on = true)) := by
  have hi : i < ops.size := (Array.getElem?_eq_some_iff.1 ho).1
  have hgo : ops.getD i default = o := by simp [Array.getD_eq_getD_getElem?, ho]
  unfold regWf at h
  rw [List.all_eq_true] at h
  have h1 := h i (List.mem_range.2 hi)
  rw [hgo, Bool.and_eq_true, Bool.and_eq_true, List.all_eq_true, List.all_eq_true, decide_eq_true_eq] at h1
  obtain ⟨⟨h0, h2⟩, h3⟩ := h1
  have hlt : ∀ j, ordB ops j i = true → j < i := by
    intro j ho
    rcases Nat.lt_or_ge j i with hlt | hge
    · exact hlt
    · have : (bef ops).getD i 0 < 2 ^ j := Nat.lt_of_lt_of_le h0 (Nat.pow_le_pow_right (by omega) hge)
      have := Nat.testBit_lt_two_pow this
      unfold ordB at ho
      rw [this] at ho; cases ho
  refine ⟨fun e he hb => ?_, fun j hord => ⟨hlt j hord, ?_⟩⟩
  · have := h2 e (by simpa using he)
    simpa [hb] using this
  · have := h3 j (List.mem_range.2 (hlt j hord))
    unfold ordB at hord
    rw [if_pos hord, List.any_eq_true] at this
    obtain ⟨e, he, hh⟩ := this
    simp only [Bool.and_eq_true, Bool.or_eq_true, beq_iff_eq] at hh
    exact ⟨e, by simpa using he, hh.1, hh.2⟩

def opAt (ops : Array Oper) (i : Nat) : Oper := ops.getD i default

/-- An operation that may come next. -/
def rdy (ops : Array Oper) (m i : Nat) : Prop := m.testBit i = true ∧ ∀ j, m.testBit j = true → ordB ops j i = false

section
variable (T : Nat → Option TY) (tbl : Tbl) (ops : Array Oper) (G : AS → Prop)

/-- All orders of what is left end well. -/
inductive AllRun : Nat → AS → Prop
  | mk (m : Nat) (σ : AS) (nx : Nat → AS) (h0 : m = 0 → G σ) (h1 : ∀ i, rdy ops m i → astep T tbl ops (opAt ops i) σ = some (nx i)) (h2 : ∀ i, rdy ops m i → AllRun (m ^^^ 2 ^ i) (nx i)) : AllRun m σ

/-- All orders of a tree end well. -/
def TreeRun : Tr → AS → Prop
  | .done, σ => G σ
  | .one i t, σ => ∃ σ1, astep T tbl ops (opAt ops i) σ = some σ1 ∧ TreeRun t σ1
  | .alt i t r, σ => (∃ σ1, astep T tbl ops (opAt ops i) σ = some σ1 ∧ TreeRun t σ1) ∧ TreeRun r σ
  | .stop, _ => True
end

section
variable {T : Nat → Option TY} {tbl : Tbl} {ops : Array Oper} {G : AS → Prop}

theorem AllRun.of {m : Nat} {σ : AS} (h0 : m = 0 → G σ) (h : ∀ i, rdy ops m i → ∃ σ1, astep T tbl ops (opAt ops i) σ = some σ1 ∧ AllRun T tbl ops G (m ^^^ 2 ^ i) σ1) : AllRun T tbl ops G m σ := by
  refine .mk m σ (fun i => (astep T tbl ops (opAt ops i) σ).getD σ) h0 (fun i hi => ?_) (fun i hi => ?_)
  · obtain ⟨σ1, h1, _⟩ := h i hi
    rw [h1]; rfl
  · obtain ⟨σ1, h1, h2⟩ := h i hi
    rw [h1]; exact h2

theorem AllRun.eqv (hG : ∀ σ τ, Eqv σ τ → G σ → G τ) {m : Nat} {σ : AS} (h : AllRun T tbl ops G m σ) : ∀ {τ : AS}, Eqv σ τ → AllRun T tbl ops G m τ := by
  induction h with
  | mk m σ nx h0 h1 h2 ih =>
    intro τ e
    refine .of (fun hm => hG _ _ e (h0 hm)) fun i hi => ?_
    obtain ⟨τ', h3, e2⟩ := e.step (h1 i hi)
    exact ⟨τ', h3, ih i hi e2⟩

theorem bit_flip (m i j : Nat) : (m ^^^ 2 ^ i).testBit j = (m.testBit j ^^ decide (i = j)) := by
  rw [Nat.testBit_xor, Nat.testBit_two_pow]

theorem bit_off {m i j : Nat} (hi : m.testBit i = true) (h : (m ^^^ 2 ^ i).testBit j = true) : j ≠ i ∧ m.testBit j = true := by
  rw [bit_flip] at h
  by_cases e : i = j
  · subst e; simp [hi] at h
  · simp [e] at h; exact ⟨fun h => e h.symm, h⟩

theorem bit_keep {m i j : Nat} (hj : m.testBit j = true) (h : j ≠ i) : (m ^^^ 2 ^ i).testBit j = true := by
  have h' : ¬ i = j := fun h' => h h'.symm
  rw [bit_flip, hj]
  simp [h']

theorem AllRun.one (hG : ∀ σ τ, Eqv σ τ → G σ → G τ) {i m' : Nat} {σ1 : AS} (hA : AllRun T tbl ops G m' σ1) : ∀ {m : Nat} {σ σ0 : AS}, m' = m ^^^ 2 ^ i → m.testBit i = true →
    (∀ j, m.testBit j = true → j ≠ i → ordB ops i j = false → commB tbl ops (opAt ops i) (opAt ops j) = true) → astep T tbl ops (opAt ops i) σ = some σ0 → Eqv σ1 σ0 → AllRun T tbl ops G m σ := by
  induction hA with
  | mk m' σ1 nx h0 h1 h2 ih =>
    intro m σ σ0 hm hi hind hst he
    refine .of (fun h => by subst h; simp at hi) fun k hk => ?_
    by_cases hki : k = i
    · subst hki
      exact ⟨σ0, hst, hm ▸ (AllRun.mk m' σ1 nx h0 h1 h2).eqv hG he⟩
    · have hc := hind k hk.1 hki (hk.2 i hi)
      have hrk : rdy ops m' k := by
        subst hm
        exact ⟨bit_keep hk.1 hki, fun j hj => hk.2 j (bit_off hi hj).2⟩
      obtain ⟨υ, hu, e2⟩ := he.step (h1 k hrk)
      obtain ⟨τ1, τ2, s1, s2, e3⟩ := step_comm hc hst hu
      refine ⟨τ1, s1, ih k hrk (m := m ^^^ 2 ^ k) (σ := τ1) (σ0 := τ2) ?_ (bit_keep hi (Ne.symm hki)) ?_ s2 (e2.trans e3)⟩
      · rw [hm, Nat.xor_assoc, Nat.xor_assoc, Nat.xor_comm (2 ^ i)]
      · intro j hj hji hord
        exact hind j (bit_off hk.1 hj).2 hji hord

/-- Tables: who stands ahead; who has to do with it and is not behind it. -/
def tabOk (tbl : Tbl) (ops : Array Oper) (pm dm : List Nat) : Bool :=
  (List.range ops.size).all fun i => (List.range ops.size).all fun j =>
    (!(pm.getD i 0).testBit j || ordB ops j i) && (j == i || ordB ops i j || (dm.getD i 0).testBit j || commB tbl ops (opAt ops i) (opAt ops j))

def cov (n : Nat) (pm dm : List Nat) : Tr → Nat → Nat → Bool
  | .done, m, _ => m == 0
  | .one i t, m, _ => m.testBit i && (m &&& dm.getD i 0) == 0 && cov n pm dm t (m ^^^ 2 ^ i) 0
  | .alt i t r, m, acc => m.testBit i && cov n pm dm t (m ^^^ 2 ^ i) 0 && cov n pm dm r m (acc ||| 2 ^ i)
  | .stop, m, acc => m != 0 && (List.range n).all fun i => !(m.testBit i && (m &&& pm.getD i 0) == 0) || acc.testBit i

theorem cov_ok (hG : ∀ σ τ, Eqv σ τ → G σ → G τ) {pm dm : List Nat} (htab : tabOk tbl ops pm dm = true) : ∀ (t : Tr) (m acc : Nat) (σ : AS), cov ops.size pm dm t m acc = true → (∀ j, m.testBit j = true → j < ops.size) →
    (∀ j, acc.testBit j = true → rdy ops m j → ∃ σ1, astep T tbl ops (opAt ops j) σ = some σ1 ∧ AllRun T tbl ops G (m ^^^ 2 ^ j) σ1) → TreeRun T tbl ops G t σ → AllRun T tbl ops G m σ := by
  have htab' : ∀ i j, i < ops.size → j < ops.size → ((pm.getD i 0).testBit j = true → ordB ops j i = true) ∧ (j = i ∨ ordB ops i j = true ∨ (dm.getD i 0).testBit j = true ∨ commB tbl ops (opAt ops i) (opAt ops j) = true) := by
    intro i j hi hj
    unfold tabOk at htab
    rw [List.all_eq_true] at htab
    have h1 := htab i (List.mem_range.2 hi)
    rw [List.all_eq_true] at h1
    have h2 := h1 j (List.mem_range.2 hj)
    simp only [Bool.and_eq_true, Bool.or_eq_true, beq_iff_eq, Bool.not_eq_true'] at h2
    refine ⟨fun h => h2.1.resolve_left (by rw [h]; decide), ?_⟩
    rcases h2.2 with ((h | h) | h) | h
    · exact .inl h
    · exact .inr (.inl h)
    · exact .inr (.inr (.inl h))
    · exact .inr (.inr (.inr h))
  intro t
  induction t with
  | done =>
    intro m acc σ hc hb hacc hr
    have : m = 0 := by simpa [cov] using hc
    subst this
    exact .of (fun _ => hr) fun i hi => by simp [rdy] at hi
  | one i t ih =>
    intro m acc σ hc hb hacc hr
    simp only [cov, Bool.and_eq_true, beq_iff_eq] at hc
    obtain ⟨⟨h1, h2⟩, h3⟩ := hc
    obtain ⟨σ1, hs, ht⟩ := hr
    refine AllRun.one hG (ih _ 0 σ1 h3 (fun j hj => hb j (bit_off h1 hj).2) (fun j hj => by simp at hj) ht) rfl h1 (fun j hj hji hord => ?_) hs (.refl _)
    rcases (htab' i j (hb i h1) (hb j hj)).2 with h | h | h | h
    · exact absurd h hji
    · rw [hord] at h; cases h
    · have := congrArg (fun x => x.testBit j) h2
      simp [hj] at this
      simp [this] at h
    · exact h
  | alt i t r iht ihr =>
    intro m acc σ hc hb hacc hr
    simp only [cov, Bool.and_eq_true] at hc
    obtain ⟨⟨h1, h3⟩, h4⟩ := hc
    obtain ⟨⟨σ1, hs, ht⟩, hrest⟩ := hr
    refine ihr m _ σ h4 hb (fun j hj hrj => ?_) hrest
    rw [Nat.testBit_or, Nat.testBit_two_pow, Bool.or_eq_true, decide_eq_true_eq] at hj
    rcases hj with hj | hj
    · exact hacc j hj hrj
    · subst hj
      exact ⟨σ1, hs, iht _ 0 σ1 h3 (fun j hj => hb j (bit_off h1 hj).2) (fun j hj => by simp at hj) ht⟩
  | stop =>
    intro m acc σ hc hb hacc hr
    simp only [cov, Bool.and_eq_true, bne_iff_ne, List.all_eq_true] at hc
    obtain ⟨h1, h2⟩ := hc
    refine .of (fun h => absurd h h1) fun i hi => hacc i ?_ hi
    have := h2 i (List.mem_range.2 (hb i hi.1))
    have h0 : m &&& pm.getD i 0 = 0 := by
      refine Nat.eq_of_testBit_eq fun j => ?_
      rw [Nat.testBit_and, Nat.zero_testBit]
      cases hj : m.testBit j with
      | false => rfl
      | true =>
        cases hp : (pm.getD i 0).testBit j with
        | false => rfl
        | true =>
          have := (htab' i j (hb i hi.1) (hb j hj)).1 hp
          rw [hi.2 j hj] at this; cases this
    rw [hi.1, h0] at this
    simpa using this
end

section
variable {P : Program} {T : Nat → Option TY} {tbl : Tbl} (hT : TOk P T) (ht : TblOk P tbl) {Fe : Fence} {n : Nat} (hFe : Wide Fe)
include hT ht hFe

theorem any_run {F : Fr} {ops : Array Oper} (hreg : regWf ops = true) (hdst : ∀ (i : Nat) (o : Oper), ops[i]? = some o → ∀ t, o.dst = some t → t < F.nt) {Q : Exit → Act → World → Prop} {G : AS → Prop}
    (hQ : ∀ τ ρ' a' w', G τ → Rel F ρ' τ a' w' → Q .normal a' w') : ∀ (fuel : Nat) (listed : Array Bool) (m : Nat) (σ : AS) (ρ : Nat → Option (Nat × Nat)) (a : Act) (w : World),
    listed.size = ops.size → (∀ j, m.testBit j = !(listed.getD j true)) → (∀ i j, i < ops.size → listed.getD i false = true → ordB ops j i = true → listed.getD j false = true) → (left ops listed).length ≤ fuel →
    AllRun T tbl ops G m σ → Rel F ρ σ a w → wpAnyIn Fe n P .any ops Q fuel listed a w := by
  have done : ∀ (listed : Array Bool) (m : Nat) (σ : AS) (ρ : Nat → Option (Nat × Nat)) (a : Act) (w : World), listed.size = ops.size → (∀ j, m.testBit j = !(listed.getD j true)) → Region.ready .any ops listed = [] →
      AllRun T tbl ops G m σ → Rel F ρ σ a w → Q .normal a w := by
    intro listed m σ ρ a w hsz hm hr hst hrel
    have hall : ∀ i, i < ops.size → listed.getD i true = true := by
      intro i
      induction i using Nat.strongRecOn with
      | _ i ih =>
        intro hi
        cases hl : listed.getD i true with
        | true => rfl
        | false =>
          have ho : ops[i]? = some ops[i] := by simp [hi]
          have : i ∈ Region.ready .any ops listed := by
            rw [mem_ready]
            refine ⟨hl, _, ho, fun e he hb => ?_⟩
            have hlt := (regWf_spec hreg ho).1 e he hb
            have h1 := ih e.on hlt (by omega)
            have h2 : e.on < listed.size := by omega
            simp [Array.getD_eq_getD_getElem?, h2] at h1 ⊢
            exact h1
          rw [hr] at this
          cases this
    have hm0 : m = 0 := by
      refine Nat.eq_of_testBit_eq fun j => ?_
      rw [hm j, Nat.zero_testBit]
      rcases Nat.lt_or_ge j ops.size with hj | hj
      · rw [hall j hj]; rfl
      · simp [Array.getD_eq_getD_getElem?, Array.getElem?_eq_none (show listed.size ≤ j by omega)]
    cases hst with
    | mk m σ nx h0 h1 h2 => exact hQ σ ρ _ _ (h0 hm0) hrel
  intro fuel
  induction fuel with
  | zero =>
    intro listed m σ ρ a w hsz hm hdown hlen hst hrel
    have hnil : left ops listed = [] := List.eq_nil_of_length_eq_zero (by omega)
    have hr : Region.ready .any ops listed = [] := by
      rw [List.eq_nil_iff_forall_not_mem]
      intro i hi
      obtain ⟨h1, o, ho, _⟩ := mem_ready.1 hi
      obtain ⟨A, B, h2, _⟩ := left_split ho h1
      rw [hnil] at h2
      have := congrArg List.length h2
      simp at this
    exact ⟨hr, done listed m σ ρ a w hsz hm hr hst hrel⟩
  | succ fuel ih =>
    intro listed m σ ρ a w hsz hm hdown hlen hst hrel
    refine ⟨fun hr => done listed m σ ρ a w hsz hm hr hst hrel, fun i hi => ?_⟩
    obtain ⟨hl, o, ho, hpre⟩ := mem_ready.1 hi
    have hilt : i < ops.size := (Array.getElem?_eq_some_iff.1 ho).1
    obtain ⟨A, B, hleft, hleft', hA⟩ := left_split ho hl
    obtain ⟨hs1, hs2⟩ := regWf_spec hreg ho
    have hbefore : ∀ j, ordB ops j i = true → listed.getD j false = true := by
      intro j hord
      obtain ⟨_, e, he, hb, hor⟩ := hs2 j hord
      have hon := hpre e he hb
      have hlt := hs1 e he hb
      rcases hor with rfl | hor
      · exact hon
      · exact hdown _ j (by omega) hon hor
    have hrdy : rdy ops m i := by
      refine ⟨by rw [hm i, hl]; rfl, fun j hj => ?_⟩
      cases hord : ordB ops j i with
      | false => rfl
      | true =>
        have h1 := hbefore j hord
        have hji := (hs2 j hord).1
        rw [hm j] at hj
        have : j < listed.size := by omega
        simp [Array.getD_eq_getD_getElem?, this] at h1 hj
        rw [h1] at hj; cases hj
    have hgo : opAt ops i = o := by simp [opAt, Array.getD_eq_getD_getElem?, ho]
    cases hst with
    | mk m σ nx h0 h1 h2 =>
      have hs := h1 i hrdy
      rw [hgo] at hs
      refine astep_ok hT ht hFe hrel ho (hdst i o ho) hs _ Q fun ρ' a' w' hrel' => ?_
      have hsz' : (listed.setIfInBounds i true).size = ops.size := by simp [hsz]
      refine ih _ (m ^^^ 2 ^ i) (nx i) ρ' a' w' hsz' ?_ ?_ ?_ (h2 i hrdy) hrel'
      · intro j
        rw [bit_flip]
        by_cases e : i = j
        · subst e
          have : i < listed.size := by omega
          rw [hrdy.1]
          simp [Array.getD_eq_getD_getElem?, this]
        · rw [getD_set_ne true e, hm j]
          simp [e]
      · intro p j hp hpl hord
        by_cases hpi : p = i
        · subst hpi
          exact getD_set_true (hbefore j hord)
        · rw [getD_set_ne false (Ne.symm hpi)] at hpl
          exact getD_set_true (hdown p j hp hpl hord)
      · rw [hleft']
        have := congrArg List.length hleft
        simp at this ⊢
        omega
end

/-- The first table: who stands ahead. -/
def mkPm (ops : Array Oper) : List Nat := (List.range ops.size).map fun i => (bef ops).getD i 0
/-- The second table: who has to do with it and is not behind it. -/
def mkDm (tbl : Tbl) (ops : Array Oper) : List Nat := (List.range ops.size).map fun i => (List.range ops.size).foldl (fun m j => match j == i || ordB ops i j || commB tbl ops (opAt ops i) (opAt ops j) with | true => m | false => m ||| 2 ^ j) 0

def treeOk (tbl : Tbl) (ops : Array Oper) (t : Tr) : Bool :=
  regWf ops && tabOk tbl ops (mkPm ops) (mkDm tbl ops) && cov ops.size (mkPm ops) (mkDm tbl ops) t (2 ^ ops.size - 1) 0

end Go.AI
