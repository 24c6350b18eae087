/- Arguments that are read whole, as data: numbers, texts, structs of such, slices of such, however deep. -/
import Derived.Test.YtjdjfchhbocncaaGreatAiD
import Derived.ChangeArms
import Derived.ChangeSlices
namespace Go.AI
set_option linter.unusedVariables false

/-- What a cell holds. -/
inductive Sh where
  | bool
  | int (k : IntKind)
  | str
  | sl (fs : List Sh)

/-- Cells of such a kind. The number bounds the depth. -/
def okSh : Nat → Sh → D → Bool
  | _, .bool, .bool _ => true
  | _, .int k, .int k' _ => k == k'
  | _, .str, .str _ => true
  | n + 1, .sl fs, .sl rows => rows.all fun r => go n fs r
  | _, _, _ => false
where
  go (n : Nat) : List Sh → List D → Bool
    | [], [] => true
    | s :: l, d :: m => okSh n s d && go n l m
    | _, _ => false

def shFs (P : Program) (rec : TypeId → Option (List Sh)) : List Field → Nat → Option (List Sh)
  | [], _ => some []
  | f :: l, off => match rec f.type with
    | some a => if f.offset = off ∧ P.cellsOf f.type = a.length then (match shFs P rec l (off + a.length) with | some b => some (a ++ b) | none => none) else none
    | none => none

/-- A type's cells, one behind the other. -/
def shOf (P : Program) : Nat → TypeId → Option (List Sh)
  | 0, _ => none
  | n + 1, t => match P.underlying t with
    | some .bool => some [.bool]
    | some (.int k) => some [.int k]
    | some .string => some [.str]
    | some (.slice e) => match shOf P n e with
      | some fs => if P.cellsOf e = fs.length ∧ 0 < fs.length then some [.sl fs] else none
      | none => none
    | some (.struct fs) => match shFs P (shOf P n) fs.toList 0 with
      | some a => if P.cellsOf t = a.length then some a else none
      | none => none
    | _ => none

theorem list_of {α : Type} [Inhabited α] {p : Nat → α → Prop} : ∀ (n : Nat), (∀ i, i < n → ∃ r, p i r) → ∃ l : List α, l.length = n ∧ ∀ i, i < n → p i (l.getD i default)
  | 0, _ => ⟨[], rfl, fun i hi => absurd hi (Nat.not_lt_zero i)⟩
  | n + 1, h => by
    obtain ⟨l, h1, h2⟩ := list_of n fun i hi => h i (by omega)
    obtain ⟨r, hr⟩ := h n (by omega)
    refine ⟨l ++ [r], by simp [h1], fun i hi => ?_⟩
    by_cases hin : i < n
    · have := h2 i hin
      simp only [List.getD_eq_getElem?_getD] at this ⊢
      rwa [List.getElem?_append_left (by omega)]
    · have : i = n := by omega
      subst this
      simpa [List.getD_eq_getElem?_getD, h1] using hr

theorem cells?_get {w : World} {base : Nat} {a : Addr} : ∀ {n : Nat} {cs : List Value}, w.cells? base a n = some cs → cs.length = n ∧ ∀ j, j < n → w.cell? (a.add j) = some (cs.getD j undef) := by
  intro n cs h
  unfold World.cells? at h
  split at h
  · have hl := mapM_some_length h
    refine ⟨by simpa using hl, fun j hj => ?_⟩
    have := mapM_some_get h j j (by simp [hj])
    rw [this]
    have hj' : j < cs.length := by rw [hl]; simpa using hj
    simp [List.getD_eq_getElem?_getD, hj']
  · cases h

theorem okSh_succ : ∀ (n : Nat) (s : Sh) (d : D), okSh n s d = true → okSh (n + 1) s d = true
  | 0, s, d, h => by
    cases s <;> cases d <;> simp [okSh] at h ⊢ <;> exact h
  | n + 1, s, d, h => by
    have go : ∀ (fs : List Sh) (r : List D), okSh.go n fs r = true → okSh.go (n + 1) fs r = true := by
      intro fs
      induction fs with
      | nil => intro r h; cases r <;> simp [okSh.go] at h ⊢
      | cons s fs ih =>
        intro r h
        cases r with
        | nil => simp [okSh.go] at h
        | cons d r =>
          simp only [okSh.go, Bool.and_eq_true] at h ⊢
          exact ⟨okSh_succ n s d h.1, ih r h.2⟩
    cases s <;> cases d <;> simp [okSh] at h ⊢ <;> first | exact h | exact fun r hr => go _ r (h r hr)
theorem go_succ (n : Nat) : ∀ (fs : List Sh) (r : List D), okSh.go n fs r = true → okSh.go (n + 1) fs r = true := by
  intro fs
  induction fs with
  | nil => intro r h; cases r <;> simp [okSh.go] at h ⊢
  | cons s fs ih =>
    intro r h
    cases r with
    | nil => simp [okSh.go] at h
    | cons d r =>
      simp only [okSh.go, Bool.and_eq_true] at h ⊢
      exact ⟨okSh_succ n s d h.1, ih r h.2⟩

theorem one_lt {p : Nat → Prop} (h : p 0) : ∀ i, i < 1 → p i := fun i hi => by
  have : i = 0 := by omega
  subst this
  exact h

/-- Cells that were read are data of the kind. -/
def ReadOk (W : World) (k : Nat) (fs : List Sh) (cs : List Value) : Prop :=
  cs.length = fs.length ∧ ∃ ds : List D, ds.length = fs.length ∧ okSh.go k fs ds = true ∧ ∀ i, i < fs.length → RelD W (fun _ => False) (ds.getD i .nilp) (cs.getD i undef)

theorem go_append {k : Nat} : ∀ {a b : List Sh} {x y : List D}, okSh.go k a x = true → okSh.go k b y = true → okSh.go k (a ++ b) (x ++ y) = true
  | [], b, [], y, _, h => h
  | [], _, _ :: _, _, h, _ => by simp [okSh.go] at h
  | _ :: _, _, [], _, h, _ => by simp [okSh.go] at h
  | s :: a, b, d :: x, y, h1, h2 => by
    simp only [okSh.go, Bool.and_eq_true, List.cons_append] at h1 ⊢
    exact ⟨h1.1, go_append h1.2 h2⟩

theorem ReadOk.append {W : World} {k : Nat} {a b : List Sh} {x y : List Value} (h1 : ReadOk W k a x) (h2 : ReadOk W k b y) : ReadOk W k (a ++ b) (x ++ y) := by
  obtain ⟨l1, d1, m1, g1, r1⟩ := h1
  obtain ⟨l2, d2, m2, g2, r2⟩ := h2
  refine ⟨by simp [l1, l2], d1 ++ d2, by simp [m1, m2], go_append g1 g2, fun i hi => ?_⟩
  rw [getD_append, getD_append, m1, l1]
  split
  · rename_i h; exact r1 i h
  · rename_i h; exact r2 _ (by simp at hi; omega)

section
variable {H : Type} {enc : TypeId × Value → H} {P : Program} {W : World} {base : Nat} {spare : Nat → Bool} {held : Bool}

theorem read_fields {k m : Nat} {rec : TypeId → Option (List Sh)} (hrec : ∀ t fs, rec t = some fs → ∀ cs x, DataW.trod enc P W base spare held m t cs = some x → ReadOk W k fs cs) (cs : List Value) :
    ∀ (l : List Field) (off : Nat) (b : List Sh), shFs P rec l off = some b → (∀ f ∈ l, ∃ y, DataW.trod enc P W base spare held m f.type ((cs.drop f.offset).take (P.cellsOf f.type)) = some y) → off ≤ cs.length →
      off + b.length ≤ cs.length ∧ ReadOk W k b ((cs.drop off).take b.length)
  | [], off, b, h, _, ho => by
    cases h
    exact ⟨by simpa using ho, by simp [ReadOk, okSh.go]⟩
  | f :: l, off, b, h, hf, ho => by
    simp only [shFs] at h
    split at h
    · rename_i a ha
      split at h
      · rename_i hc
        split at h
        · rename_i b' hb'
          cases h
          obtain ⟨y, hy⟩ := hf f (List.mem_cons_self ..)
          have h1 := hrec _ _ ha _ _ hy
          rw [hc.1, hc.2] at h1
          have hl : off + a.length ≤ cs.length := by
            have := h1.1
            simp at this
            omega
          obtain ⟨h2, h3⟩ := read_fields hrec cs l (off + a.length) b' hb' (fun g hg => hf g (List.mem_cons_of_mem _ hg)) hl
          refine ⟨by simp; omega, ?_⟩
          have e : (cs.drop off).take (a ++ b').length = (cs.drop off).take a.length ++ (cs.drop (off + a.length)).take b'.length := by
            rw [List.length_append, List.take_add, List.drop_drop]
          rw [e]
          exact h1.append h3
        · cases h
      · cases h
    · cases h

theorem read_ok : ∀ (k : Nat) (t : TypeId) (fs : List Sh), shOf P k t = some fs → ∀ (m : Nat) (cs : List Value) (x : DataW H × List MemPlace), DataW.trod enc P W base spare held m t cs = some x → ReadOk W k fs cs := by
  intro k
  induction k with
  | zero => intro t fs h; cases h
  | succ k ih =>
    intro t fs h m cs x hx
    simp only [shOf] at h
    split at h
    · rename_i hu
      cases h
      obtain ⟨b, rfl, _⟩ := DataW.trod_bool hu hx
      exact ⟨rfl, [.bool b], rfl, rfl, one_lt (.bool _)⟩
    · rename_i q hu
      cases h
      obtain ⟨n, rfl, _, _⟩ := DataW.trod_int hu hx
      exact ⟨rfl, [.int q n], rfl, by simp [okSh.go, okSh], one_lt (.int _ _)⟩
    · rename_i hu
      cases h
      obtain ⟨s, rfl, _, _⟩ := DataW.trod_string hu hx
      exact ⟨rfl, [.str s.data.toList], rfl, rfl, one_lt (.str _ _ rfl)⟩
    · rename_i e hu
      split at h
      · rename_i fe he
        split at h
        · rename_i hc
          cases h
          rcases DataW.trod_slice hu hx with ⟨rfl, _⟩ | ⟨a, len, cap, elems, rest, n, _, rfl, _, _, hl, _, hlen, hel, _, _⟩
          · exact ⟨rfl, [.sl []], rfl, by simp [okSh.go, okSh], one_lt (.sl0 _ _)⟩
          · rcases Nat.eq_zero_or_pos len with h0 | h0
            · subst h0
              exact ⟨rfl, [.sl []], rfl, by simp [okSh.go, okSh], one_lt (.sl0 _ _)⟩
            · have each : ∀ i, i < len → ∃ p : List D × List Value, p.1.length = fe.length ∧ okSh.go k fe p.1 = true ∧ (∀ j, j < fe.length → RelD W (fun _ => False) (p.1.getD j .nilp) (p.2.getD j undef)) ∧
                  ∀ j, j < fe.length → W.cell? ((a.add (i * fe.length)).add j) = some (p.2.getD j undef) := by
                intro i hi
                have h1 := hel i hi
                have hy : elems[i]? = some (elems[i]'(by omega)) := List.getElem?_eq_getElem (by omega)
                rw [hy, Option.bind_eq_some_iff] at h1
                obtain ⟨ci, hci, htr⟩ := h1
                rw [hc.1] at hci
                obtain ⟨_, ds, m1, g1, r1⟩ := ih e fe he n ci _ htr
                exact ⟨(ds, ci), m1, g1, r1, (cells?_get hci).2⟩
              obtain ⟨L, hL, hp⟩ := list_of len each
              obtain ⟨b, off, spot⟩ := a
              have hc0 := (hp 0 h0).2.2.2 0 hc.2
              cases spot with
              | some s =>
                exfalso
                simp [World.cell?, Addr.add] at hc0
                split at hc0 <;> cases hc0
              | none =>
                have hrl : (L.map (·.1)).length = len := by simp [hL]
                have hg : ∀ i, i < len → (L.map (·.1)).getD i [] = (L.getD i default).1 := by
                  intro i hi
                  have : i < L.length := by omega
                  simp [List.getD_eq_getElem?_getD, this]
                refine ⟨rfl, [.sl (L.map (·.1))], rfl, ?_, fun i hi => ?_⟩
                · simp only [okSh.go, okSh, Bool.and_true, List.all_eq_true]
                  intro r hr
                  obtain ⟨i, hi, rfl⟩ := List.mem_iff_getElem.1 hr
                  have hi' : i < len := by omega
                  have := (hp i hi').2.1
                  rw [← hg i hi'] at this
                  simpa [List.getD_eq_getElem?_getD, show i < L.length by omega] using this
                · have : i = 0 := by simpa using hi
                  subst this
                  have key := RelD.sl (w := W) (Wr := fun _ => False) (L.map (·.1)) b off fe.length cap (fun i j => (L.getD i default).2.getD j undef) (by intro e; rw [e] at hrl; simp at hrl; omega) hc.2 (fun h => h)
                    (fun r hr => by
                      obtain ⟨i, hi, rfl⟩ := List.mem_iff_getElem.1 hr
                      have hi' : i < len := by omega
                      have := (hp i hi').1
                      rw [← hg i hi'] at this
                      simpa [List.getD_eq_getElem?_getD, show i < L.length by omega] using this)
                    (fun i j hi hj => by
                      have := (hp i (by omega)).2.2.2 j hj
                      rwa [add_place, add_place, Nat.add_assoc] at this)
                    (fun i j hi hj => by
                      have := (hp i (by omega)).2.2.1 j hj
                      rw [← hg i (by omega)] at this
                      exact this) (by omega)
                  rw [hrl] at key
                  exact key
        · cases h
      · cases h
    · rename_i fds hu
      split at h
      · rename_i a ha
        split at h
        · rename_i hc
          cases h
          obtain ⟨xs, n, _, _, hcl, hxl, hf⟩ := DataW.trod_struct hu hx
          have := read_fields (P := P) (fun t fs h cs x => ih t fs h n cs x) cs fds.toList 0 fs ha (fun f hf' => by
            obtain ⟨i, hi, rfl⟩ := List.mem_iff_getElem.1 hf'
            have hi' : i < fds.size := by simpa using hi
            have h1 := hf i (fds[i]'hi') (by simp [hi'])
            have h2 : i < xs.length := by omega
            exact ⟨xs[i], by simpa [h2] using h1⟩) (Nat.zero_le _)
          have h2 := this.2
          have hcl' : cs.length = fs.length := hcl.trans hc
          rw [List.drop_zero, ← hcl', List.take_length] at h2
          obtain ⟨q1, ds, q2, q3, q4⟩ := h2
          exact ⟨q1, ds, q2, go_succ _ _ _ q3, q4⟩
        · cases h
      · cases h
    · cases h

/-- An argument of several cells, of which nothing is known but that. -/
theorem uc_of {k : Nat} {t : TypeId} {fs : List Sh} (hs : shOf P k t = some fs) (hl : 1 < fs.length) {v : Value} {d : DataW H} {ps : List MemPlace} (h : DataW.Trod enc P W base spare held t v d ps) (Wr : Nat → Prop) (ρ : Nat → Option (Nat × Nat)) (objs : List AObj) :
    RelV W Wr ρ objs (.agg (List.replicate fs.length .uc)) v := by
  obtain ⟨n, hn⟩ := h
  obtain ⟨h1, ds, h2, h3, h4⟩ := read_ok k t fs hs n _ _ hn
  have key : ∀ cs : Array Value, v = .agg cs → RelV W Wr ρ objs (.agg (List.replicate fs.length .uc)) v := by
    rintro cs rfl
    have h1 : cs.size = fs.length := by simpa [Value.cells] using h1
    refine .agg _ _ (by simp [h1]) fun i hi => ?_
    have hi' : i < fs.length := by simpa using hi
    have e : (List.replicate fs.length AV.uc).getD i .undef = .uc := by simp [List.getD_eq_getElem?_getD, hi']
    rw [e]
    refine .uc _ ?_
    have h5 := (h4 i hi').one
    have e2 : (Value.agg cs).cells.toList.getD i undef = cs.getD i undef := by simp [Value.cells, List.getD_eq_getElem?_getD, Array.getD_eq_getD_getElem?]
    rwa [e2] at h5
  cases v <;> first | (exact key _ rfl) | (exfalso; simp [Value.cells] at h1; omega)

end

end Go.AI
