/- Code over abstract states, stripped of what does not matter; that it does what it says; contracts of functions. -/
import Derived.Test.YtjdjfchhbocncaaGreatAiT
import Derived.Test.YtjdjfchhbocncaaGreatAiY
namespace Go.AI
set_option linter.unusedVariables false

structure ROp where
  dst : Option Nat
  op : Op
  g : Option (Nat × Bool)

inductive RTr where
  | done
  | one (o : ROp) (t : RTr)
  | alt (o : ROp) (t r : RTr)
  | stop

inductive RC where
  | skip
  | reg (l : List ROp)
  | tree (t : RTr)
  | seq (a b : RC)
  | cond (c : Operand) (t e : RC)
  | block (id : Nat) (c : RC)
  | loop (c : RC)
  | rangeF (g : Operand) (p d : Nat) (b : RC)
  | exit (id : Nat)
  | goto (l : Nat)
  | ret
  | bad

def stripG (ops : Array Oper) : Option (Nat × Bool) → Option (Nat × Bool)
  | none => none
  | some (j, w) => match (ops[j]?).bind (·.dst) with
    | some t => some (t, w)
    | none => some (1000000000, w)

def stripO (ops : Array Oper) (o : Oper) : ROp := ⟨o.dst, o.op, stripG ops o.guard⟩

def stripT (ops : Array Oper) : Tr → RTr
  | .done => .done
  | .one i t => .one (stripO ops (opAt ops i)) (stripT ops t)
  | .alt i t r => .alt (stripO ops (opAt ops i)) (stripT ops t) (stripT ops r)
  | .stop => .stop

def strip (tbl : Tbl) : Code → RC
  | .skip => .skip
  | .region id ops _ => match tbl.d id with
    | none => .reg (ops.toList.map (stripO ops))
    | some t => .tree (stripT ops t)
  | .seq a b => .seq (strip tbl a) (strip tbl b)
  | .cond c t e => .cond c (strip tbl t) (strip tbl e)
  | .block id c => .block id (strip tbl c)
  | .loop c => .loop (strip tbl c)
  | .exit id => .exit id
  | .label _ => .skip
  | .goto l => .goto l
  | .ret => .ret
  | .rangeFunc g ps as b => match ps.toList, as with
    | [p], .region _ ops false => match ops.toList with
      | [o] => match o.dst with
        | some d => .rangeF g p d (strip tbl b)
        | none => .bad
      | _ => .bad
    | _, _ => .bad
  | _ => .bad

/-- A text without a loop over a function. -/
def noRF : Code → Bool
  | .rangeFunc .. => false
  | .seq a b => noRF a && noRF b
  | .cond _ t e => noRF t && noRF e
  | .block _ c => noRF c
  | .loop c => noRF c
  | .scope c => noRF c
  | _ => true

def asgOk (p : Nat) (o : Oper) : Bool :=
  match o.op, o.dst, o.guard with
  | .assign (.tmp q), some d, none => q == p
  | _, _, _ => false

/-- What a walk needs of a text beside its operations: slots that are there, guards that name a slot, orders that do not matter. -/
def codeOk (tbl : Tbl) (nt : Nat) : Code → Bool
  | .region id ops draw => ops.toList.all (fun o => (match o.dst with | some t => decide (t < nt) | none => true) && (match o.guard with | none => true | some (j, _) => ((ops[j]?).bind (·.dst)).isSome))
      && (match tbl.d id with | none => !draw || regOk tbl ops | some t => draw && treeOk tbl ops t)
  | .seq a b => codeOk tbl nt a && codeOk tbl nt b
  | .cond _ t e => codeOk tbl nt t && codeOk tbl nt e
  | .block _ c => codeOk tbl nt c
  | .loop c => codeOk tbl nt c
  | .rangeFunc g ps as b => match ps.toList, as with
    | [p], .region _ ops false => match ops.toList with
      | [o] => asgOk p o && decide (p < nt) && (match o.dst with | some d => decide (d < nt) | none => false) && noRF b && codeOk tbl nt b
      | _ => true
    | _, _ => true
  | _ => true

def okk {α : Type} (o : Option α) (k : α → Prop) : Prop :=
  match o with
  | some r => k r
  | none => False

theorem okk_iff {α : Type} (o : Option α) (k : α → Prop) : okk o k ↔ ∃ r, o = some r ∧ k r := by
  cases o <;> simp [okk]

/-- A condition on the side. -/
structure Side (p : Prop) : Prop where
  ok : p

/-- A number that is known is worked out. -/
def seeN (n : Nat) (k : Nat → Prop) : Prop :=
  match n with
  | 0 => k 0
  | n + 1 => seeN n fun m => k (m + 1)

theorem seeN_elim : ∀ {n : Nat} {k : Nat → Prop}, seeN n k → k n := by
  intro n
  induction n with
  | zero => intro k h; exact h
  | succ n ih => intro k h; exact ih (k := fun m => k (m + 1)) h

def seeNs (l : List Nat) (k : List Nat → Prop) : Prop :=
  match l with
  | [] => k []
  | n :: l => seeN n fun n => seeNs l fun m => k (n :: m)

theorem seeNs_elim : ∀ {l : List Nat} {k : List Nat → Prop}, seeNs l k → k l := by
  intro l
  induction l with
  | nil => intro k h; exact h
  | cons n l ih =>
    intro k h
    have h := seeN_elim h
    exact ih (k := fun m => k (n :: m)) h

/-- A list is looked at, up to its end. -/
def seeL {α : Type} (l : List α) (k : List α → Prop) : Prop :=
  match l with
  | [] => k []
  | x :: l => seeL l fun m => k (x :: m)

theorem seeL_elim {α : Type} : ∀ {l : List α} {k : List α → Prop}, seeL l k → k l := by
  intro l
  induction l with
  | nil => intro k h; exact h
  | cons x l ih => intro k h; exact ih h

/-- A value is looked at, up to its first sign; a bool is named anew. -/
def force (v : AV) (k : AV → Prop) : Prop :=
  match v with
  | .d (.bool b) => ∀ c : Bool, c = b → k (.d (.bool c))
  | .d (.int q n) => k (.d (.int q n))
  | .d (.str s) => k (.d (.str s))
  | .d (.sl s) => k (.d (.sl s))
  | .d .nilp => k (.d .nilp)
  | .d .nilfn => k (.d .nilfn)
  | .d .nilif => k (.d .nilif)
  | .d .nilmap => k (.d .nilmap)
  | .d .nilsl => k (.d .nilsl)
  | .win a b c d => seeN a fun a => k (.win a b c d)
  | .ptr a b c d => seeN a fun a => k (.ptr a b c d)
  | .rptr a b => k (.rptr a b)
  | .nils => k .nils
  | .agg l => seeL l fun l => k (.agg l)
  | .ar l => k (.ar l)
  | .tup l => seeL l fun l => k (.tup l)
  | .fn f l => seeL l fun l => k (.fn f l)
  | .skip => k .skip
  | .undef => k .undef
  | .ub => k .ub
  | .uc => k .uc
  | .mp a b => seeN a fun a => k (.mp a b)

theorem force_elim {v : AV} {k : AV → Prop} (h : force v k) : k v := by
  unfold force at h
  split at h <;> first | exact h _ rfl | exact h | exact seeN_elim (k := fun a => k (.win a _ _ _)) h | exact seeN_elim (k := fun a => k (.ptr a _ _ _)) h | exact seeN_elim (k := fun a => k (.mp a _)) h | exact seeL_elim (k := fun l => k (.agg l)) h | exact seeL_elim (k := fun l => k (.tup l)) h | exact seeL_elim (k := fun l => k (.fn _ l)) h

/-- A value is looked at, up to its first sign. -/
def see (v : AV) (k : AV → Prop) : Prop :=
  match v with
  | .d (.bool b) => k (.d (.bool b))
  | .d (.int q n) => k (.d (.int q n))
  | .d (.str s) => k (.d (.str s))
  | .d (.sl s) => k (.d (.sl s))
  | .d .nilp => k (.d .nilp)
  | .d .nilfn => k (.d .nilfn)
  | .d .nilif => k (.d .nilif)
  | .d .nilmap => k (.d .nilmap)
  | .d .nilsl => k (.d .nilsl)
  | .win a b c d => seeN a fun a => k (.win a b c d)
  | .ptr a b c d => seeN a fun a => k (.ptr a b c d)
  | .rptr a b => k (.rptr a b)
  | .nils => k .nils
  | .agg l => seeL l fun l => k (.agg l)
  | .ar l => k (.ar l)
  | .tup l => seeL l fun l => k (.tup l)
  | .fn f l => seeL l fun l => k (.fn f l)
  | .skip => k .skip
  | .undef => k .undef
  | .ub => k .ub
  | .uc => k .uc
  | .mp a b => seeN a fun a => k (.mp a b)

theorem see_elim {v : AV} {k : AV → Prop} (h : see v k) : k v := by
  unfold see at h
  split at h <;> first | exact h | exact seeN_elim (k := fun a => k (.win a _ _ _)) h | exact seeN_elim (k := fun a => k (.ptr a _ _ _)) h | exact seeN_elim (k := fun a => k (.mp a _)) h | exact seeL_elim (k := fun l => k (.agg l)) h | exact seeL_elim (k := fun l => k (.tup l)) h | exact seeL_elim (k := fun l => k (.fn _ l)) h

def elemW (T : Nat → Option TY) (t : Nat) (x : AV) (n : Int) (objs : List AObj) (k : AV → Prop) : Prop :=
  match x with
  | .d (.sl rows) => match elemT T t with
    | some y => ∃ r, Side (0 ≤ n ∧ n < rows.length ∧ rows.getD n.toNat [] = r) ∧ (match decide (r.length = y.size) with | true => k (.rptr r 0) | false => False)
    | none => False
  | .win id off len gen => match elemT T t, objs[id]? with
    | some y, some o => Side ((gen = o.gen ∧ o.sz = y.size) ∧ 0 ≤ n ∧ n < len) ∧ k (.ptr id gen (off + n.toNat) 0)
    | _, _ => False
  | .ptr id gen row col => match arrT T t with
    | some (len, y) => match objs[id]? with
      | some (.arr _ sz g) => Side ((0 ≤ n ∧ n < len) ∧ gen = g ∧ sz = 1 ∧ y.size = 1) ∧ k (.ptr id gen (row + col + n.toNat) 0)
      | some (.var _ _) => Side (0 ≤ n ∧ n < len) ∧ k (.ptr id gen row (col + n.toNat * y.size))
      | some (.map _ _) => False
      | some (.arv _ _ _) => False
      | none => False
    | none => False
  | .rptr row j => match arrT T t with
    | some (len, y) => Side (0 ≤ n ∧ n < len) ∧ k (.rptr row (j + n.toNat * y.size))
    | none => False
  | _ => False

theorem elemW_elim {T : Nat → Option TY} {t : Nat} {x : AV} {n : Int} {objs : List AObj} {k : AV → Prop} (h : elemW T t x n objs k) : ∃ r, elemA T t x n objs = some r ∧ k r := by
  unfold elemW at h
  unfold elemA
  split at h
  · split at h
    · rename_i y hy
      obtain ⟨r, ⟨h1, h2, rfl⟩, h3⟩ := h
      split at h3
      · rename_i hd
        refine ⟨_, ?_, h3⟩
        simp only [hy]
        rw [if_pos ⟨⟨h1, h2⟩, of_decide_eq_true hd⟩]
      · exact h3.elim
    · exact h.elim
  · split at h
    · rename_i y o hy ho
      obtain ⟨⟨h1⟩, h2⟩ := h
      refine ⟨_, ?_, h2⟩
      simp only [hy, ho]
      rw [if_pos h1]
    · exact h.elim
  · rename_i id gen row col
    split at h
    · rename_i len y hy
      split at h
      · rename_i rs sz g ho
        obtain ⟨⟨h1⟩, h2⟩ := h
        refine ⟨_, ?_, h2⟩
        simp only [hy, ho]
        rw [if_pos h1]
      · rename_i cs g ho
        obtain ⟨⟨h1⟩, h2⟩ := h
        refine ⟨_, ?_, h2⟩
        simp only [hy, ho]
        rw [if_pos h1]
      · exact h.elim
      · exact h.elim
      · exact h.elim
    · exact h.elim
  · split at h
    · rename_i len y hy
      obtain ⟨⟨h1⟩, h2⟩ := h
      refine ⟨_, ?_, h2⟩
      simp only [hy]
      rw [if_pos h1]
    · exact h.elim
  · exact h.elim

def loadW (sy : Nat → Bool) (y : TY) (a : AV) (objs : List AObj) (k : AV → Prop) : Prop :=
  match a with
  | .ptr id gen row col => match objs[id]? with
    | some (.var cells g) => match decide (gen = g), row with
      | true, 0 => match sy cells.length with
        | true => ∃ r, Side (tyAgg y = false ∧ col < cells.length ∧ cells.getD col .undef = r) ∧ k r
        | false => okk (partA y cells col) k
      | _, _ => False
    | some (.arr rs n g) => match decide (n = 1) with
      | true => match tyAgg y with
        | true => ∃ ds, Side (gen = g ∧ row + col + y.size ≤ rs.length ∧ (((rs.drop (row + col)).take y.size).map fun r => r.getD 0 .nilp) = ds) ∧ k (.ar ds)
        | false => ∃ r, Side (gen = g ∧ row + col < rs.length ∧ rs.getD (row + col) [] = r) ∧ okk (partD y r 0) k
      | false => ∃ r, Side (gen = g ∧ row < rs.length ∧ rs.getD row [] = r) ∧ okk (partD y r col) k
    | some (.map _ _) => False
    | some (.arv cells n g) => ∃ r, Side (gen = g ∧ row < (chunks n cells).length ∧ (chunks n cells).getD row [] = r) ∧ okk (partA y r col) k
    | none => False
  | .rptr row j => okk (partD y row j) k
  | _ => False

theorem partA_get {y : TY} {cells : List AV} {col : Nat} (h1 : tyAgg y = false) (h2 : col < cells.length) : partA y cells col = some (cells.getD col .undef) := by
  unfold partA
  rw [h1]
  have : cells.drop col = cells[col] :: cells.drop (col + 1) := List.drop_eq_getElem_cons h2
  rw [this, List.getD_eq_getElem?_getD, List.getElem?_eq_getElem h2]
  rfl

theorem loadW_elim {sy : Nat → Bool} {y : TY} {a : AV} {objs : List AObj} {k : AV → Prop} (h : loadW sy y a objs k) : ∃ r, loadA y a objs = some r ∧ k r := by
  unfold loadW at h
  unfold loadA
  split at h
  · split at h
    · rename_i cells g ho
      simp only [ho]
      split at h
      · rename_i hg
        simp only [hg]
        split at h
        · obtain ⟨r, ⟨h1, h2, rfl⟩, h3⟩ := h
          exact ⟨_, partA_get h1 h2, h3⟩
        · rw [okk_iff] at h
          exact h
      · exact h.elim
    · rename_i rs n g ho
      split at h
      · rename_i hn
        split at h
        · rename_i hag
          obtain ⟨ds, ⟨h1, h3, rfl⟩, h4⟩ := h
          simp only [ho, hn, hag]
          exact ⟨_, by rw [if_pos ⟨h1, h3⟩], h4⟩
        · rename_i hag
          obtain ⟨r, ⟨h1, h2, rfl⟩, h3⟩ := h
          rw [okk_iff] at h3
          obtain ⟨v, hv, hk⟩ := h3
          simp only [ho, hn, hag]
          exact ⟨v, by rw [if_pos ⟨h1, h2⟩]; exact hv, hk⟩
      · rename_i hn
        obtain ⟨r, ⟨h1, h2, rfl⟩, h3⟩ := h
        rw [okk_iff] at h3
        obtain ⟨v, hv, hk⟩ := h3
        simp only [ho, hn]
        exact ⟨v, by rw [if_pos ⟨h1, h2⟩]; exact hv, hk⟩
    · exact h.elim
    · rename_i cells n g ho
      obtain ⟨r, ⟨h1, h2, rfl⟩, h3⟩ := h
      rw [okk_iff] at h3
      obtain ⟨v, hv, hk⟩ := h3
      simp only [ho]
      exact ⟨v, by rw [if_pos ⟨h1, h2⟩]; exact hv, hk⟩
    · exact h.elim
  · rw [okk_iff] at h; exact h
  · exact h.elim

def sliceW (T : Nat → Option TY) (t : Nat) (x : AV) (lo hi : Int) (objs : List AObj) (k : AV → Prop) : Prop :=
  match x with
  | .d (.sl rows) => match elemT T t with
    | some y => Side ((0 ≤ lo ∧ lo ≤ hi ∧ hi ≤ rows.length) ∧ (rows = [] ∨ (rows.getD 0 []).length = y.size)) ∧ k (.d (.sl ((rows.take hi.toNat).drop lo.toNat)))
    | none => False
  | .d (.str s) => match T t with
    | some ⟨.string, _, _, _⟩ => Side (0 ≤ lo ∧ lo ≤ hi ∧ hi ≤ s.length) ∧ k (.d (.str ((s.take hi.toNat).drop lo.toNat)))
    | _ => False
  | .win id off len gen => match elemT T t, objs[id]? with
    | some y, some o => Side ((gen = o.gen ∧ o.sz = y.size ∧ (gen ≠ 0 ∨ hi ≤ len)) ∧ 0 ≤ lo ∧ lo ≤ hi ∧ off + hi ≤ o.rows.length) ∧ k (.win id (off + lo.toNat) (hi.toNat - lo.toNat) gen)
    | _, _ => False
  | .nils => match elemT T t with
    | some _ => Side (0 ≤ lo ∧ lo ≤ hi ∧ hi ≤ 0) ∧ k .nils
    | none => False
  | _ => False

theorem sliceW_elim {T : Nat → Option TY} {t : Nat} {x : AV} {lo hi : Int} {objs : List AObj} {k : AV → Prop} (h : sliceW T t x lo hi objs k) : ∃ r, sliceA T t x lo hi objs = some r ∧ k r := by
  unfold sliceW at h
  unfold sliceA
  split at h
  · split at h
    · rename_i y hy
      obtain ⟨⟨h1⟩, h2⟩ := h
      exact ⟨_, by simp only [hy]; rw [if_pos h1], h2⟩
    · exact h.elim
  · split at h
    · rename_i hy
      obtain ⟨⟨h1⟩, h2⟩ := h
      exact ⟨_, by simp only [hy]; rw [if_pos h1], h2⟩
    · exact h.elim
  · split at h
    · rename_i y o hy ho
      obtain ⟨⟨h1⟩, h2⟩ := h
      exact ⟨_, by simp only [hy, ho]; rw [if_pos h1], h2⟩
    · exact h.elim
  · split at h
    · rename_i y hy
      obtain ⟨⟨h1⟩, h2⟩ := h
      exact ⟨_, by simp only [hy]; rw [if_pos h1], h2⟩
    · exact h.elim
  · exact h.elim

def slicePW (T : Nat → Option TY) (t : Nat) (x : AV) (lo hi : Option Operand) (e : Env) (objs : List AObj) (k : AV → Prop) : Prop :=
  match x, arrT T t with
  | .ptr id gen row col, some (n, y) => match boundA e 0 lo, boundA e n hi, objs[id]? with
    | some l, some h, some (.arr rs sz g) => Side (((gen = g ∧ sz = 1 ∧ y.size = 1) ∧ g = 0 ∧ row + col + n ≤ rs.length) ∧ 0 ≤ l ∧ l ≤ h ∧ h ≤ n) ∧ k (.win id (row + col + l.toNat) (h.toNat - l.toNat) gen)
    | _, _, _ => False
  | _, _ => False

theorem slicePW_elim {T : Nat → Option TY} {t : Nat} {x : AV} {lo hi : Option Operand} {e : Env} {objs : List AObj} {k : AV → Prop} (h : slicePW T t x lo hi e objs k) : ∃ r, sliceP T t x lo hi e objs = some r ∧ k r := by
  unfold slicePW at h
  unfold sliceP
  split at h
  · rename_i hty
    split at h
    · rename_i hl hh ho
      obtain ⟨⟨h1⟩, h2⟩ := h
      exact ⟨_, by simp only [hty, hl, hh, ho]; rw [if_pos h1], h2⟩
    · exact h.elim
  · exact h.elim

def appendW (y : TY) (s : AV) (R : List (List D)) (objs : List AObj) (k : AV → List AObj → Prop) : Prop :=
  match s with
  | .nils => Side ((∀ r ∈ R, r.length = y.size) ∧ 0 < y.size ∧ 0 < y.bytes ∧ R.length * y.bytes ≤ 140737488355328) ∧ seeL (objs ++ [.arr R y.size 1]) fun ob => k (.win objs.length 0 R.length 1) ob
  | .win id off len gen => match objs[id]? with
    | some (.arr rs n g) => (Side (off + len = rs.length ∧ (∀ r ∈ R, r.length = y.size) ∧ 0 < y.size ∧ 0 < y.bytes ∧ (gen = g ∧ g ≠ 0) ∧ n = y.size ∧ (len + R.length) * y.bytes ≤ 140737488355328) ∧
          seeL (objs.set id (.arr (rs.drop off ++ R) n (g + 1))) fun ob => k (.win id 0 (len + R.length) (g + 1)) ob) ∨
        (Side (off + len ≠ rs.length ∧ (∀ r ∈ R, r.length = y.size) ∧ 0 < y.size ∧ 0 < y.bytes ∧ (gen = g ∧ g ≠ 0) ∧ n = y.size ∧ off + len + R.length ≤ rs.length) ∧
          seeL (objs.set id (.arr (setR rs (off + len) R) n g)) fun ob => k (.win id off (len + R.length) gen) ob)
    | _ => False
  | _ => False

theorem appendW_elim {y : TY} {s : AV} {R : List (List D)} {objs : List AObj} {k : AV → List AObj → Prop} (h : appendW y s R objs k) : ∃ r, appendA y s R objs = some r ∧ k r.1 r.2 := by
  unfold appendW at h
  unfold appendA
  split at h
  · obtain ⟨⟨h1⟩, h2⟩ := h
    exact ⟨(_, _), by rw [if_pos h1], seeL_elim h2⟩
  · split at h
    · rename_i ho
      rcases h with ⟨⟨h0, h1⟩, h2⟩ | ⟨⟨h0, h1⟩, h2⟩
      · exact ⟨(_, _), by simp only [ho, h0, decide_true]; rw [if_pos h1], seeL_elim h2⟩
      · exact ⟨(_, _), by simp only [ho, h0, decide_false]; rw [if_pos h1], seeL_elim h2⟩
    · exact h.elim
  · exact h.elim

def storeW (sy : Nat → Bool) (y : TY) (a v : AV) (objs : List AObj) (k : List AObj → Prop) : Prop :=
  match a with
  | .ptr id gen row col => match v with
   | .ar ds => match objs[id]? with
    | some (.arr rs n g) => Side ((n = 1 ∧ gen = g) ∧ ds.length = y.size ∧ row + col + ds.length ≤ rs.length) ∧ seeL (objs.set id (.arr (setR rs (row + col) (ds.map fun d => [d])) n g)) k
    | _ => False
   | v => okk (toCells y v) fun cs => match objs[id]? with
    | some (.var cells g) => match sy cells.length with
      | true => ∃ cells', Side ((gen = g ∧ row = 0) ∧ col + cs.length ≤ cells.length ∧ setR cells col cs = cells') ∧ seeL (objs.set id (.var cells' g)) k
      | false => match decide (gen = g), row, decide (col + cs.length ≤ cells.length) with
        | true, 0, true => seeL (setR cells col cs) fun cells' => seeL (objs.set id (.var cells' g)) k
        | _, _, _ => False
    | some (.arr rs n g) => okk (allD cs) fun ds => match decide (n = 1) with
      | true => match ds with
        | [d] => Side (gen = g ∧ row + col < rs.length) ∧ seeL (objs.set id (.arr (rs.set (row + col) [d]) n g)) k
        | ds => Side (gen = g ∧ row + col + ds.length ≤ rs.length) ∧ seeL (objs.set id (.arr (setR rs (row + col) (ds.map fun d => [d])) n g)) k
      | false => Side (gen = g ∧ row < rs.length ∧ col + ds.length ≤ n) ∧ seeL (objs.set id (.arr (rs.set row (setR (rs.getD row []) col ds)) n g)) k
    | some (.map _ _) => False
    | some (.arv _ _ _) => False
    | none => False
  | _ => False

def gexec (T : Nat → Option TY) (tbl : Tbl) (op : Op) (tm : List (Nat × AV)) (ob : List AObj) (k : AV → List AObj → Prop) : Prop :=
  match decide (opK tbl op ≤ 1) && !isBuild tbl op with
  | true => okk (aVal T tbl op (AS.eval ⟨tm, ob⟩) ob) fun v => force v fun v => k v ob
  | false => okk (aDo T tbl op (AS.eval ⟨tm, ob⟩) ob) fun r => see r.1 fun v => seeL r.2 fun ob' => k v ob'

/-- Objects are looked at, each up to its cells' first signs. -/
def seeCells (l : List AV) (k : List AV → Prop) : Prop :=
  match l with
  | [] => k []
  | v :: l => see v fun v => seeCells l fun m => k (v :: m)
theorem seeCells_elim : ∀ {l : List AV} {k : List AV → Prop}, seeCells l k → k l := by
  intro l
  induction l with
  | nil => intro k h; exact h
  | cons x l ih => intro k h; exact ih (see_elim h)
def seeO (o : AObj) (k : AObj → Prop) : Prop :=
  match o with
  | .var cells g => seeCells cells fun cs => k (.var cs g)
  | .arr rs n g => k (.arr rs n g)
  | .map l g => k (.map l g)
  | .arv cells n g => seeCells cells fun cs => k (.arv cs n g)
theorem seeO_elim {o : AObj} {k : AObj → Prop} (h : seeO o k) : k o := by
  cases o with
  | var cells g => exact seeCells_elim (k := fun cs => k (.var cs g)) h
  | arr rs n g => exact h
  | map l g => exact h
  | arv cells n g => exact seeCells_elim (k := fun cs => k (.arv cs n g)) h
def seeOs (l : List AObj) (k : List AObj → Prop) : Prop :=
  match l with
  | [] => k []
  | o :: l => seeO o fun o => seeOs l fun m => k (o :: m)
theorem seeOs_elim : ∀ {l : List AObj} {k : List AObj → Prop}, seeOs l k → k l := by
  intro l
  induction l with
  | nil => intro k h; exact h
  | cons x l ih => intro k h; exact ih (seeO_elim h)

def locsW (tbl : Tbl) (g : Nat) (args : List AV) (ob : List AObj) (L : List Nat) (k : AV → List AObj → Prop) : Prop :=
  match locOk ob L && allIdL (inL L) args with
  | true => seeCells (renL (idx L) args) fun a' => seeOs (locO ob L) fun o' => okk (tbl.o g a' o') fun r => see (r.1.ren (backN ob.length L)) fun v => seeOs (backO ob L r.2) fun ob' => k v ob'
  | false => False

/-- A call of a function value, what it is given worked out first. -/
def callV (tbl : Tbl) (g : Nat) (args : List AV) (ob : List AObj) (k : AV → List AObj → Prop) : Prop :=
  match tbl.k g with
  | true => seeCells args fun args => seeOs ob fun ob => seeNs (reachN ob ob.length (addL [] (idsL args))) fun L => locsW tbl g args ob L k
  | false => seeCells args fun args => okk (tbl.c g args) fun v => force v fun v => k v ob

theorem callV_elim {tbl : Tbl} {g : Nat} {args : List AV} {ob : List AObj} {k : AV → List AObj → Prop} (h : callV tbl g args ob k) : ∃ r, callO tbl g args ob = some r ∧ k r.1 r.2 := by
  unfold callV at h
  unfold callO
  split at h
  · rename_i hk
    have h1 := seeCells_elim h
    have h2 := seeOs_elim (k := fun ob => seeNs (reachN ob ob.length (addL [] (idsL args))) fun L => locsW tbl g args ob L k) h1
    have h3 := seeNs_elim (k := fun L => locsW tbl g args ob L k) h2
    simp only [hk]
    unfold locsW at h3
    split at h3
    · rename_i hl
      have h4 := seeCells_elim h3
      have h5 := seeOs_elim (k := fun o' => okk (tbl.o g (renL (idx (reachN ob ob.length (addL [] (idsL args)))) args) o') fun r => see (r.1.ren (backN ob.length (reachN ob ob.length (addL [] (idsL args))))) fun v => seeOs (backO ob (reachN ob ob.length (addL [] (idsL args))) r.2) fun ob' => k v ob') h4
      rw [okk_iff] at h5
      obtain ⟨r, hr, h6⟩ := h5
      simp only [hl, hr]
      exact ⟨_, rfl, seeOs_elim (k := fun ob' => k _ ob') (see_elim (k := fun v => seeOs _ fun ob' => k v ob') h6)⟩
    · exact h3.elim
  · rename_i hk
    have h1 := seeCells_elim h
    rw [okk_iff] at h1
    obtain ⟨v, hv, h2⟩ := h1
    simp only [hk, hv]
    exact ⟨_, rfl, force_elim (k := fun v => k v ob) h2⟩

def callW (T : Nat → Option TY) (tbl : Tbl) (c : Call) (tm : List (Nat × AV)) (ob : List AObj) (k : AV → List AObj → Prop) : Prop :=
  match c.callee with
  | .builtin .append => match c.args.toList, c.argTypes.toList with
    | [s, x], [t, u] => match elemT T t, srcA (AS.eval ⟨tm, ob⟩ x) ob, srcT T u with
      | some y, some R, true => appendW y (AS.eval ⟨tm, ob⟩ s) R ob k
      | _, _, _ => False
    | _, _ => False
  | .builtin .copy => match c.args.toList, c.argTypes.toList with
    | [s, x], [t, u] => match elemT T t, srcA (AS.eval ⟨tm, ob⟩ x) ob, AS.eval ⟨tm, ob⟩ s with
      | some y, some R, .win id off len gen => match ob[id]? with
        | some (.arr rs n g) => Side ((∀ r ∈ R, r.length = y.size) ∧ 0 < y.size ∧ gen = g ∧ n = y.size ∧ off + len ≤ rs.length) ∧
            seeL (ob.set id (.arr (setR rs off (R.take len)) n g)) fun ob' => k (.d (.int .i64 (min R.length len : Nat))) ob'
        | _ => False
      | _, _, _ => False
    | _, _ => False
  | .builtin .clear => match c.args.toList, c.argTypes.toList with
    | [s], [t] => match elemT T t, AS.eval ⟨tm, ob⟩ s with
      | some y, .win id off len gen => match allD y.zero, ob[id]? with
        | some z, some (.arr rs n g) => Side ((0 < y.size ∧ gen = g ∧ n = y.size) ∧ off + len ≤ rs.length) ∧
            seeL (ob.set id (.arr (setR rs off (List.replicate len z)) n g)) fun ob' => k (.tup []) ob'
        | _, _ => False
      | some _, .nils => k (.tup []) ob
      | _, _ => False
    | _, _ => False
  | .value f => match isRead tbl f || isExt tbl f with
    | true => gexec T tbl (.call c) tm ob k
    | false => match AS.eval ⟨tm, ob⟩ f with
      | .fn (.func g) cap => callV tbl g (c.args.toList.map (AS.eval ⟨tm, ob⟩) ++ cap) ob k
      | _ => False
  | _ => gexec T tbl (.call c) tm ob k

/-- A shift by a number that is not negative. -/
def shW (T : Nat → Option TY) (tbl : Tbl) (op : BinOp) (t : Nat) (x y : Operand) (u : Nat) (tm : List (Nat × AV)) (ob : List AObj) (k : AV → List AObj → Prop) : Prop :=
  match AS.eval ⟨tm, ob⟩ x, AS.eval ⟨tm, ob⟩ y with
  | .d (.int q a), .d (.int _ b) => match b with
    | .ofNat n => match op with
      | .shl => k (.d (.int q (q.wrap (a * 2 ^ (min n q.bits))))) ob
      | .shr => k (.d (.int q (a.fdiv (2 ^ (min n q.bits))))) ob
      | _ => False
    | .negSucc _ => False
  | _, _ => False

theorem shW_elim {T : Nat → Option TY} {tbl : Tbl} {op : BinOp} {t : Nat} {x y : Operand} {u : Nat} {tm : List (Nat × AV)} {ob : List AObj} {k : AV → List AObj → Prop} (h : shW T tbl op t x y u tm ob k) :
    ∃ v, aVal T tbl (.binOp op t x y u) (AS.eval ⟨tm, ob⟩) ob = some v ∧ k v ob := by
  unfold shW at h
  split at h
  · rename_i q a q' b hx hy
    split at h
    · rename_i n
      have hn : ¬ (Int.ofNat n < 0) := Int.not_lt.2 (Int.natCast_nonneg n)
      split at h
      · exact ⟨_, by simp only [aVal, hx, hy, aBin]; rw [if_neg hn]; rfl, h⟩
      · exact ⟨_, by simp only [aVal, hx, hy, aBin]; rw [if_neg hn]; rfl, h⟩
      · exact h.elim
    · exact h.elim
  · exact h.elim

def rexec (T : Nat → Option TY) (tbl : Tbl) (op : Op) (tm : List (Nat × AV)) (ob : List AObj) (k : AV → List AObj → Prop) : Prop :=
  match op with
  | .move x => see (AS.eval ⟨tm, ob⟩ x) fun v => k v ob
  | .assign x => see (AS.eval ⟨tm, ob⟩ x) fun v => k v ob
  | .pick c a b => match AS.eval ⟨tm, ob⟩ c with
    | .d (.bool t) => (t = true → see (AS.eval ⟨tm, ob⟩ a) fun v => k v ob) ∧ (t = false → see (AS.eval ⟨tm, ob⟩ b) fun v => k v ob)
    | _ => False
  | .binOp op t x y u => match op with
    | .shl => shW T tbl .shl t x y u tm ob k
    | .shr => shW T tbl .shr t x y u tm ob k
    | op => gexec T tbl (.binOp op t x y u) tm ob k
  | .indexAddr t x i => match AS.eval ⟨tm, ob⟩ i with
    | .d (.int _ n) => elemW T t (AS.eval ⟨tm, ob⟩ x) n ob fun v => k v ob
    | _ => False
  | .index t x i => match AS.eval ⟨tm, ob⟩ x, AS.eval ⟨tm, ob⟩ i with
    | .d (.str s), .d (.int _ n) => match T t with
      | some ⟨.string, _, _, _⟩ => Side (0 ≤ n ∧ n < s.length) ∧ k (.d (.int .u8 ((s.getD n.toNat 0).toNat : Int))) ob
      | _ => False
    | .agg cs, .d (.int _ n) => match arrT T t with
      | some (len, y) => match tbl.s t cs.length with
        | true => ∃ r, Side ((0 ≤ n ∧ n < len) ∧ tyAgg y = false ∧ n.toNat * y.size < cs.length ∧ cs.getD (n.toNat * y.size) .undef = r) ∧ k r ob
        | false => Side (0 ≤ n ∧ n < len) ∧ okk (partA y cs (n.toNat * y.size)) fun v => see v fun v => k v ob
      | none => False
    | .ar ds, .d (.int _ n) => match arrT T t with
      | some (len, y) => ∃ r, Side ((0 ≤ n ∧ n < len) ∧ tyAgg y = false ∧ y.size = 1 ∧ n.toNat < ds.length ∧ ds.getD n.toNat .nilp = r) ∧ k (.d r) ob
      | none => False
    | _, _ => False
  | .load t a => match T t with
    | some y => loadW (tbl.s t) y (AS.eval ⟨tm, ob⟩ a) ob fun v => see v fun v => k v ob
    | none => False
  | .slice t x lo hi mx => match mx, lenA (AS.eval ⟨tm, ob⟩ x) with
    | none, some len => match boundA (AS.eval ⟨tm, ob⟩) 0 lo, boundA (AS.eval ⟨tm, ob⟩) len hi with
      | some l, some h => sliceW T t (AS.eval ⟨tm, ob⟩ x) l h ob fun v => k v ob
      | _, _ => False
    | none, none => slicePW T t (AS.eval ⟨tm, ob⟩ x) lo hi (AS.eval ⟨tm, ob⟩) ob fun v => k v ob
    | _, _ => False
  | .store t a x => match T t with
    | some y => storeW (tbl.s t) y (AS.eval ⟨tm, ob⟩ a) (AS.eval ⟨tm, ob⟩ x) ob fun ob' => k .skip ob'
    | none => False
  | .convert t u x => match tbl.cv t with
    | 1 => match u8T T u t with
      | true => match AS.eval ⟨tm, ob⟩ x with
        | .d (.str _) => False
        | v => okk (srcA v ob) fun R => ∃ s, Side (allByte R = true ∧ R.map byteD = s) ∧ k (.d (.str s)) ob
      | false => False
    | _ => gexec T tbl (.convert t u x) tm ob k
  | .makeSlice t l c => match elemT T t, AS.eval ⟨tm, ob⟩ l, AS.eval ⟨tm, ob⟩ c with
    | some y, .d (.int .i64 l), .d (.int .i64 c) => okk (allD y.zero) fun z => Side (0 ≤ l ∧ l ≤ c ∧ c * y.bytes ≤ 140737488355328 ∧ c < 9223372036854775808) ∧
        seeL (ob ++ [.arr (List.replicate l.toNat z) y.size 1]) fun ob' => k (.win ob.length 0 l.toNat 1) ob'
    | _, _, _ => False
  | .call c => callW T tbl c tm ob k
  | op => gexec T tbl op tm ob k

def rdst (d : Option Nat) (v : AV) (tm : List (Nat × AV)) : List (Nat × AV) :=
  match d with
  | some t => (t, v) :: tm
  | none => tm

def rnext (d : Option Nat) (v : AV) (tm : List (Nat × AV)) (k : List (Nat × AV) → Prop) : Prop :=
  match d with
  | some t => k ((t, v) :: tm)
  | none => k tm

theorem rnext_eq (d : Option Nat) (v : AV) (tm : List (Nat × AV)) (k : List (Nat × AV) → Prop) : rnext d v tm k = k (rdst d v tm) := by
  cases d <;> rfl

def rrun (T : Nat → Option TY) (tbl : Tbl) (K : AS → Prop) : List ROp → List (Nat × AV) → List AObj → Prop
  | [], tm, ob => K ⟨tm, ob⟩
  | o :: l, tm, ob => match o.g with
    | none => rexec T tbl o.op tm ob fun v ob' => rnext o.dst v tm fun tm' => rrun T tbl K l tm' ob'
    | some (t, want) => match look tm t with
      | .d (.bool b) => match want with
        | true => (b = true → rexec T tbl o.op tm ob fun v ob' => rnext o.dst v tm fun tm' => rrun T tbl K l tm' ob') ∧ (b = false → rnext o.dst .skip tm fun tm' => rrun T tbl K l tm' ob)
        | false => (b = true → rnext o.dst .skip tm fun tm' => rrun T tbl K l tm' ob) ∧ (b = false → rexec T tbl o.op tm ob fun v ob' => rnext o.dst v tm fun tm' => rrun T tbl K l tm' ob')
      | .skip => rnext o.dst .skip tm fun tm' => rrun T tbl K l tm' ob
      | _ => False

section
variable {T : Nat → Option TY} {tbl : Tbl}

theorem gexec_elim (op : Op) (tm : List (Nat × AV)) (ob : List AObj) (k : AV → List AObj → Prop) (h : gexec T tbl op tm ob k) : ∃ r, aExec T tbl op (AS.eval ⟨tm, ob⟩) ob = some r ∧ k r.1 r.2 := by
  unfold gexec at h
  unfold aExec
  split at h
  · rename_i hk
    rw [okk_iff] at h
    obtain ⟨v, hv, hk2⟩ := h
    simp only [Bool.and_eq_true, decide_eq_true_eq, Bool.not_eq_true'] at hk
    exact ⟨(v, ob), by rw [if_pos hk, hv]; rfl, force_elim hk2⟩
  · rename_i hk
    rw [okk_iff] at h
    obtain ⟨r, hr, hk2⟩ := h
    have hk' : ¬ (opK tbl op ≤ 1 ∧ isBuild tbl op = false) := by
      rintro ⟨h1, h2⟩
      simp [h1, h2] at hk
    exact ⟨r, by rw [if_neg hk']; exact hr, seeL_elim (see_elim hk2)⟩

theorem storeW_elim {sy : Nat → Bool} {t : Nat} {a x : Operand} {e : Env} {y : TY} {objs : List AObj} {k : List AObj → Prop} (ht : T t = some y) (h : storeW sy y (e a) (e x) objs k) : ∃ ob', aDo T tbl (.store t a x) e objs = some (.skip, ob') ∧ k ob' := by
  unfold storeW at h
  simp only [aDo, ht]
  split at h
  · rename_i id gen row col ha
    split at h
    · rename_i ds hx
      split at h
      · rename_i rs n g ho
        obtain ⟨⟨h1⟩, h2⟩ := h
        simp only [ha, hx, ho]
        exact ⟨_, by rw [if_pos h1], seeL_elim h2⟩
      · exact h.elim
    · rename_i hne
      rw [okk_iff] at h
      obtain ⟨cs, hcs, h⟩ := h
      simp only [ha]
      generalize e x = v at hne hcs ⊢
      cases v
      case ar ds => exact (hne ds rfl).elim
      all_goals
        simp only [hcs]
        split at h
        · rename_i cells g ho
          split at h
          · obtain ⟨cells', ⟨⟨h1, h2⟩, h3, h4⟩, h5⟩ := h
            subst h2
            simp only [ho, decide_eq_true h1, decide_eq_true h3, h4]
            exact ⟨_, rfl, seeL_elim h5⟩
          · split at h
            · rename_i h1 h3
              simp only [ho, h1, h3]
              exact ⟨_, rfl, seeL_elim (seeL_elim h)⟩
            · exact h.elim
        · rename_i rs n g ho
          rw [okk_iff] at h
          obtain ⟨ds, hds, h⟩ := h
          simp only [ho, hds]
          split at h
          · rename_i hn
            simp only [hn]
            split at h
            · obtain ⟨⟨h1⟩, h2⟩ := h
              exact ⟨_, if_pos h1, seeL_elim h2⟩
            · rename_i hne
              obtain ⟨⟨h1⟩, h2⟩ := h
              refine ⟨_, ?_, seeL_elim h2⟩
              split
              · exact (hne _ rfl).elim
              · rw [if_pos h1]
          · rename_i hn
            simp only [hn]
            obtain ⟨⟨h1⟩, h2⟩ := h
            exact ⟨_, by rw [if_pos h1], seeL_elim h2⟩
        · exact h.elim
        · exact h.elim
        · exact h.elim
  · exact h.elim

theorem rexec_elim (op : Op) (tm : List (Nat × AV)) (ob : List AObj) (k : AV → List AObj → Prop) (h : rexec T tbl op tm ob k) : ∃ r, aExec T tbl op (AS.eval ⟨tm, ob⟩) ob = some r ∧ k r.1 r.2 := by
  have val : ∀ {op : Op} {v : AV}, opK tbl op ≤ 1 → aVal T tbl op (AS.eval ⟨tm, ob⟩) ob = some v → (hb : isBuild tbl op = false := by rfl) → aExec T tbl op (AS.eval ⟨tm, ob⟩) ob = some (v, ob) := by
    intro op v hk hv hb
    unfold aExec
    rw [if_pos ⟨hk, hb⟩, hv]; rfl
  have dos : ∀ {op : Op} {r : AV × List AObj}, ¬ opK tbl op ≤ 1 → aDo T tbl op (AS.eval ⟨tm, ob⟩) ob = some r → aExec T tbl op (AS.eval ⟨tm, ob⟩) ob = some r := by
    intro op v hk hv
    unfold aExec
    rw [if_neg (fun hh => hk hh.1), hv]
  cases op <;> simp only [rexec] at h <;> first | exact gexec_elim _ _ _ _ h | skip
  case move x => exact ⟨_, val (by simp [opK]) rfl, see_elim h⟩
  case assign x => exact ⟨_, val (by simp [opK]) rfl, see_elim h⟩
  case pick c a b =>
    split at h
    · rename_i t hc
      cases t
      · exact ⟨(AS.eval ⟨tm, ob⟩ b, ob), val (by simp [opK]) (by simp [aVal, hc]), see_elim (h.2 rfl)⟩
      · exact ⟨(AS.eval ⟨tm, ob⟩ a, ob), val (by simp [opK]) (by simp [aVal, hc]), see_elim (h.1 rfl)⟩
    · exact h.elim
  case binOp op t x y u =>
    cases op <;> first | exact gexec_elim _ _ _ _ h | skip
    · obtain ⟨v, hv, hk⟩ := shW_elim h
      exact ⟨_, val (by simp [opK]) hv, hk⟩
    · obtain ⟨v, hv, hk⟩ := shW_elim h
      exact ⟨_, val (by simp [opK]) hv, hk⟩
  case indexAddr t x i =>
    split at h
    · rename_i q n hi
      obtain ⟨r, hr, hk⟩ := elemW_elim h
      exact ⟨_, val (by simp [opK]) (by simp only [aVal, hi]; exact hr), hk⟩
    · exact h.elim
  case convert t u x =>
    split at h
    · rename_i hcv
      split at h
      · rename_i hu
        split at h
        · exact h.elim
        · rename_i hne
          rw [okk_iff] at h
          obtain ⟨R, hR, s, ⟨h1, h2⟩, h3⟩ := h
          refine ⟨(.d (.str s), ob), ?_, h3⟩
          have hb : isBuild tbl (.convert t u x) = true := by simp [isBuild, hcv]
          unfold aExec
          rw [if_neg (fun hh => by rw [hb] at hh; cases hh.2)]
          simp only [aDo, hcv, strA, hu]
          revert hne hR
          generalize AS.eval ⟨tm, ob⟩ x = xv
          intro hne hR
          simp only [hR]
          rw [if_pos h1, h2]
      · exact h.elim
    · exact gexec_elim _ _ _ _ h
  case index t x i =>
    split at h
    · rename_i s q n hx hi
      split at h
      · rename_i ht
        obtain ⟨⟨h1⟩, h2⟩ := h
        exact ⟨_, val (by simp [opK]) (by simp only [aVal, hx, hi, ht]; rw [if_pos h1]), h2⟩
      · exact h.elim
    · rename_i cs q n hx hi
      split at h
      · rename_i len y ht
        split at h
        · obtain ⟨r, ⟨h1, h2, h3, rfl⟩, h4⟩ := h
          exact ⟨_, val (by simp [opK]) (by simp only [aVal, hx, hi, ht]; rw [if_pos h1]; exact partA_get h2 h3), h4⟩
        · obtain ⟨⟨h1⟩, h2⟩ := h
          rw [okk_iff] at h2
          obtain ⟨v, hv, hk⟩ := h2
          exact ⟨_, val (by simp [opK]) (by simp only [aVal, hx, hi, ht]; rw [if_pos h1]; exact hv), see_elim hk⟩
      · exact h.elim
    · rename_i ds q n hx hi
      split at h
      · rename_i len y ht
        obtain ⟨r, ⟨h1, h2, h3, h4, rfl⟩, h5⟩ := h
        exact ⟨_, val (by simp [opK]) (by simp only [aVal, hx, hi, ht]; rw [if_pos ⟨h1, h2, h3, h4⟩]), h5⟩
      · exact h.elim
    · exact h.elim
  case load t a =>
    split at h
    · rename_i y ht
      obtain ⟨r, hr, hk⟩ := loadW_elim h
      exact ⟨_, val (by simp [opK]) (by simp only [aVal, ht]; exact hr), see_elim hk⟩
    · exact h.elim
  case slice t x lo hi mx =>
    split at h
    · rename_i len hlen
      split at h
      · rename_i l hh hl hhi
        obtain ⟨r, hr, hk⟩ := sliceW_elim h
        exact ⟨_, val (by simp [opK]) (by simp only [aVal, hlen, hl, hhi]; exact hr), hk⟩
      · exact h.elim
    · rename_i hlen
      obtain ⟨r, hr, hk⟩ := slicePW_elim h
      exact ⟨_, val (by simp [opK]) (by simp only [aVal, hlen]; exact hr), hk⟩
    · exact h.elim
  case store t a x =>
    split at h
    · rename_i y ht
      obtain ⟨ob', h1, h2⟩ := storeW_elim (tbl := tbl) ht h
      exact ⟨_, dos (by simp [opK]) h1, h2⟩
    · exact h.elim
  case makeSlice t l c =>
    split at h
    · rename_i y l' c' hy hl hc
      rw [okk_iff] at h
      obtain ⟨z, hz, ⟨h1⟩, h2⟩ := h
      exact ⟨(_, _), dos (by simp [opK]) (by simp only [aDo, hy, hl, hc, hz]; rw [if_pos h1]), seeL_elim h2⟩
    · exact h.elim
  case call c =>
    unfold callW at h
    split at h
    · rename_i hcal
      have hk : ¬ opK tbl (.call c) ≤ 1 := by
        obtain ⟨ca, ar, at'⟩ := c
        simp only at hcal
        subst hcal
        simp [opK]
      split at h
      · rename_i s x t u hargs htys
        split at h
        · rename_i y R hy hR hu
          obtain ⟨r, hr, hk2⟩ := appendW_elim h
          exact ⟨r, dos hk (by simp only [aDo, hcal, hargs, htys, hy, hR, hu]; exact hr), hk2⟩
        · exact h.elim
      · exact h.elim
    · rename_i hcal
      have hk : ¬ opK tbl (.call c) ≤ 1 := by
        obtain ⟨ca, ar, at'⟩ := c
        simp only at hcal
        subst hcal
        simp [opK]
      split at h
      · rename_i s x t u hargs htys
        split at h
        · rename_i y R id off len gen hy hR hs
          split at h
          · rename_i rs n' g ho
            obtain ⟨⟨h1⟩, h2⟩ := h
            exact ⟨(_, _), dos hk (by simp only [aDo, hcal, hargs, htys, hy, hR, hs, ho]; rw [if_pos h1]), seeL_elim h2⟩
          · exact h.elim
        · exact h.elim
      · exact h.elim
    · rename_i hcal
      have hk : ¬ opK tbl (.call c) ≤ 1 := by
        obtain ⟨ca, ar, at'⟩ := c
        simp only at hcal
        subst hcal
        simp [opK]
      split at h
      · rename_i s t hargs htys
        split at h
        · rename_i y id off len gen hy hs
          split at h
          · rename_i z rs n' g hz ho
            obtain ⟨⟨h1⟩, h2⟩ := h
            exact ⟨(_, _), dos hk (by simp only [aDo, hcal, hargs, htys, hy, hs, hz, ho]; rw [if_pos h1]), seeL_elim h2⟩
          · exact h.elim
        · rename_i y hy hs
          exact ⟨(_, _), dos hk (by simp only [aDo, hcal, hargs, htys, hy, hs]), h⟩
        · exact h.elim
      · exact h.elim
    · rename_i f hcal
      split at h
      · exact gexec_elim _ _ _ _ h
      rename_i hrd0
      simp only [Bool.or_eq_false_iff] at hrd0
      obtain ⟨hrd, hrx⟩ := hrd0
      split at h
      · rename_i g cap hf
        obtain ⟨r, hr, hk⟩ := callV_elim h
        refine ⟨r, ?_, hk⟩
        by_cases h1 : opK tbl (.call c) ≤ 1
        · have hg : tbl.k g = false := by
            obtain ⟨ca, ar, at'⟩ := c
            simp only at hcal
            subst hcal
            cases f with
            | func f' =>
              cases hf
              cases hk' : tbl.k g with
              | false => rfl
              | true =>
                simp only [isRead, hk'] at hrd
                simp [opK, hk', hrd] at h1
            | _ => simp [opK] at h1
          simp only [callO, hg] at hr
          cases hv : tbl.c g (c.args.toList.map (AS.eval ⟨tm, ob⟩) ++ cap) with
          | none => rw [hv] at hr; cases hr
          | some v =>
            rw [hv] at hr
            cases hr
            exact val h1 (by simp only [aVal, hcal, hf]; exact hv) (by
              obtain ⟨ca, ar, at'⟩ := c
              simp only at hcal
              subst hcal
              exact hrd)
        · exact dos h1 (by simp only [aDo, hcal, hf, callQ, hrx, hrd, callS]; exact hr)
      · exact h.elim
    · exact gexec_elim _ _ _ _ h

theorem puto_rdst (tm : List (Nat × AV)) (ob : List AObj) (d : Option Nat) (r : AV × List AObj) : AS.res ⟨tm, ob⟩ d r = ⟨rdst d r.1 tm, r.2⟩ := by
  cases d <;> rfl

theorem rrun_steps {ops : Array Oper} {K : AS → Prop} : ∀ (l : List Oper) (tm : List (Nat × AV)) (ob : List AObj), (∀ o ∈ l, (match o.guard with | none => true | some (j, _) => ((ops[j]?).bind (·.dst)).isSome) = true) →
    rrun T tbl K (l.map (stripO ops)) tm ob → ∃ τ, asteps T tbl ops l ⟨tm, ob⟩ = some τ ∧ K τ := by
  intro l
  induction l with
  | nil => intro tm ob _ h; exact ⟨_, rfl, h⟩
  | cons o l ih =>
    intro tm ob hg h
    have hgo := hg o (List.mem_cons_self ..)
    have ih' := fun tm ob => ih tm ob fun x hx => hg x (List.mem_cons_of_mem _ hx)
    simp only [List.map_cons, rrun, stripO, rnext_eq] at h
    have next : ∀ r, astepR T tbl ops o ⟨tm, ob⟩ = some r → rrun T tbl K (l.map (stripO ops)) (rdst o.dst r.1 tm) r.2 → ∃ τ, asteps T tbl ops (o :: l) ⟨tm, ob⟩ = some τ ∧ K τ := by
      intro r hr h1
      obtain ⟨τ, h2, h3⟩ := ih' _ _ h1
      exact ⟨τ, by simp only [asteps, astep, hr, Option.map_some, Option.bind_some, puto_rdst]; exact h2, h3⟩
    cases hgd : o.guard with
    | none =>
      rw [hgd] at h
      simp only [stripG] at h
      obtain ⟨r, h1, h2⟩ := rexec_elim _ _ _ _ h
      exact next r (by simp only [astepR, hgd]; exact h1) h2
    | some p =>
      obtain ⟨j, want⟩ := p
      rw [hgd] at h hgo
      simp only [stripG] at h
      cases hd : (ops[j]?).bind (·.dst) with
      | none => simp [hd] at hgo
      | some t =>
        rw [hd] at h
        simp only at h
        have hy : yieldOf ops ⟨tm, ob⟩ j = look tm t := by simp [yieldOf, hd, AS.get]
        split at h
        · rename_i b hb
          have yes : (b = want) → rexec T tbl o.op tm ob (fun v ob' => rrun T tbl K (l.map (stripO ops)) (rdst o.dst v tm) ob') → ∃ τ, asteps T tbl ops (o :: l) ⟨tm, ob⟩ = some τ ∧ K τ := by
            intro hbw h
            obtain ⟨r, h1, h2⟩ := rexec_elim _ _ _ _ h
            exact next r (by simp only [astepR, hgd, hy, hb, if_pos hbw]; exact h1) h2
          have no : ¬ (b = want) → rrun T tbl K (l.map (stripO ops)) (rdst o.dst .skip tm) ob → ∃ τ, asteps T tbl ops (o :: l) ⟨tm, ob⟩ = some τ ∧ K τ := by
            intro hbw h
            exact next (.skip, ob) (by simp only [astepR, hgd, hy, hb, if_neg hbw]) h
          cases want <;> cases b
          · exact yes rfl (h.2 rfl)
          · exact no (by decide) (h.1 rfl)
          · exact no (by decide) (h.2 rfl)
          · exact yes rfl (h.1 rfl)
        · rename_i hb
          exact next (.skip, ob) (by simp only [astepR, hgd, hy, hb]) h
        · exact h.elim
end

/-- One state says no more than another one. -/
def Weak (σ τ : AS) : Prop := ∀ F ρ a w, Rel F ρ σ a w → ∃ ρ', Rel F ρ' τ a w

theorem Weak.refl (σ : AS) : Weak σ σ := fun F ρ a w h => ⟨ρ, h⟩

/-- Some slots are forgotten. -/
theorem Weak.slots {σ : AS} (l : List (Nat × AV)) (h : ∀ t, look l t = .undef ∨ look l t = σ.get t) : Weak σ ⟨l, σ.objs⟩ := by
  intro F ρ a w hr
  refine ⟨ρ, hr.nt, hr.ds, fun t => ?_, hr.hp⟩
  show RelV w _ ρ σ.objs (look l t) _
  rcases h t with h | h
  · rw [h]; exact .undef _
  · rw [h]; exact hr.tm t

/-- The same, where the first objects stay where they are. -/
structure WeakN (n : Nat) (σ τ : AS) : Prop where
  ok : ∀ F ρ a w, F.o0.length ≤ n → Rel F ρ σ a w → ∃ ρ', Rel F ρ' τ a w

theorem WeakN.of {n : Nat} {σ τ : AS} (h : Weak σ τ) : WeakN n σ τ := ⟨fun F ρ a w _ hr => h F ρ a w hr⟩

/-- All orders of a tree. -/
def rtree (T : Nat → Option TY) (tbl : Tbl) (K : AS → Prop) : RTr → List (Nat × AV) → List AObj → Prop
  | .done, tm, ob => K ⟨tm, ob⟩
  | .one o t, tm, ob => rrun T tbl (fun σ => rtree T tbl K t σ.tmps σ.objs) [o] tm ob
  | .alt o t r, tm, ob => rrun T tbl (fun σ => rtree T tbl K t σ.tmps σ.objs) [o] tm ob ∧ rtree T tbl K r tm ob
  | .stop, _, _ => True

theorem rtree_run {T : Nat → Option TY} {tbl : Tbl} {ops : Array Oper} {K : AS → Prop} (hg : ∀ o ∈ ops.toList, (match o.guard with | none => true | some (j, _) => ((ops[j]?).bind (·.dst)).isSome) = true) :
    ∀ (t : Tr) (tm : List (Nat × AV)) (ob : List AObj), rtree T tbl K (stripT ops t) tm ob → TreeRun T tbl ops K t ⟨tm, ob⟩ := by
  have hat : ∀ i, ∀ o ∈ [opAt ops i], (match o.guard with | none => true | some (j, _) => ((ops[j]?).bind (·.dst)).isSome) = true := by
    intro i o ho
    rw [List.mem_singleton] at ho
    subst ho
    unfold opAt
    rcases Nat.lt_or_ge i ops.size with h | h
    · refine hg _ ?_
      simp [Array.getD_eq_getD_getElem?, h]
    · have : ops.getD i default = default := by simp [Array.getD_eq_getD_getElem?, Array.getElem?_eq_none h]
      rw [this]; rfl
  intro t
  induction t with
  | done => intro tm ob h; exact h
  | one i t ih =>
    intro tm ob h
    obtain ⟨τ, h1, h2⟩ := rrun_steps [opAt ops i] tm ob (hat i) h
    simp only [asteps] at h1
    cases h3 : astep T tbl ops (opAt ops i) ⟨tm, ob⟩ with
    | none => rw [h3] at h1; cases h1
    | some σ1 =>
      rw [h3] at h1
      cases h1
      exact ⟨τ, h3, ih _ _ h2⟩
  | alt i t r iht ihr =>
    intro tm ob h
    obtain ⟨τ, h1, h2⟩ := rrun_steps [opAt ops i] tm ob (hat i) h.1
    simp only [asteps] at h1
    cases h3 : astep T tbl ops (opAt ops i) ⟨tm, ob⟩ with
    | none => rw [h3] at h1; cases h1
    | some σ1 =>
      rw [h3] at h1
      cases h1
      exact ⟨⟨τ, h3, iht _ _ h2⟩, ihr _ _ h.2⟩
  | stop => intro tm ob h; trivial

theorem TreeRun.imp {T : Nat → Option TY} {tbl : Tbl} {ops : Array Oper} {K G : AS → Prop} (hk : ∀ σ, K σ → G σ) : ∀ (t : Tr) (σ : AS), TreeRun T tbl ops K t σ → TreeRun T tbl ops G t σ
  | .done, σ, h => hk σ h
  | .one i t, σ, ⟨σ1, h1, h2⟩ => ⟨σ1, h1, TreeRun.imp hk t σ1 h2⟩
  | .alt i t r, σ, ⟨⟨σ1, h1, h2⟩, h3⟩ => ⟨⟨σ1, h1, TreeRun.imp hk t σ1 h2⟩, TreeRun.imp hk r σ h3⟩
  | .stop, _, _ => trivial

def blockK (id : Nat) (Q : Exit → AS → Prop) : Exit → AS → Prop
  | .exit id', σ => if id' = id then Q .normal σ else Q (.exit id') σ
  | e, σ => Q e σ

def thenK (next : AS → Prop) (Q : Exit → AS → Prop) : Exit → AS → Prop
  | .normal, σ => next σ
  | e, σ => Q e σ

/-- A loop: what holds at its head, with a number that falls. -/
def Loops (body : (Exit → AS → Prop) → AS → Prop) (Q : Exit → AS → Prop) (σ : AS) : Prop :=
  ∃ (I : Nat → AS → Prop) (k : Nat), (∃ τ, WeakN σ.objs.length σ τ ∧ I k τ) ∧ ∀ k σ', I k σ' → body (thenK (fun σ'' => ∃ m τ, m < k ∧ WeakN σ.objs.length σ'' τ ∧ I m τ) Q) σ'

def roundK (J : List AObj → Prop) (Q : Exit → AS → Prop) (tm : List (Nat × AV)) : Exit → AS → Prop
  | .normal, σ => J σ.objs
  | e, σ => noMaps σ.objs = true ∧ Q e ⟨tm, σ.objs⟩

/-- A loop over a function: the objects behind each round, by what was handed over. -/
def Ranges (tbl : Tbl) (body : (Exit → AS → Prop) → AS → Prop) (g : Operand) (p d : Nat) (Q : Exit → AS → Prop) (σ : AS) : Prop :=
  match σ.eval g with
  | .fn (.func f) [.ptr id gen 0 0] => match σ.objs[id]? with
    | some (.var [.d x] g') => match decide (gen = g') with
      | true => okk (tbl.it f x) fun it => ∃ J : List D → List AObj → Prop, J [] σ.objs ∧ (∀ pre ob, J pre ob → ob[id]? = some (.var [.d x] g') ∧ noMaps ob = true) ∧
          (∀ pre r ob, J pre ob → it.dom r → pre.length < it.N → body (roundK (J (pre ++ [r])) Q σ.tmps) ⟨(d, .d r) :: (p, .d r) :: σ.tmps, ob⟩) ∧
          ∀ xs ob, it.S xs → J xs ob → Q .normal ⟨σ.tmps, ob⟩
      | false => False
    | _ => False
  | _ => False

def rwp (T : Nat → Option TY) (tbl : Tbl) : RC → (Exit → AS → Prop) → AS → Prop
  | .skip, Q, σ => Q .normal σ
  | .reg l, Q, ⟨tm, ob⟩ => rrun T tbl (Q .normal) l tm ob
  | .tree t, Q, ⟨tm, ob⟩ => ∃ τ, rtree T tbl (fun σ => WeakN ob.length σ τ) t tm ob ∧ Q .normal τ
  | .seq a b, Q, σ => rwp T tbl a (thenK (rwp T tbl b Q) Q) σ
  | .cond c t e, Q, σ => match σ.eval c with
    | .d (.bool b) => (b = true → rwp T tbl t Q σ) ∧ (b = false → rwp T tbl e Q σ)
    | .ub => rwp T tbl t Q σ ∧ rwp T tbl e Q σ
    | _ => False
  | .block id c, Q, σ => rwp T tbl c (blockK id Q) σ
  | .loop c, Q, σ => Loops (rwp T tbl c) Q σ
  | .rangeF g p d b, Q, σ => Ranges tbl (rwp T tbl b) g p d Q σ
  | .exit id, Q, σ => Q (.exit id) σ
  | .goto l, Q, σ => Q (.goto l) σ
  | .ret, Q, σ => Q .ret σ
  | .bad, _, _ => False

/-- What a state says of the world behind some code. -/
def postOf (F : Fr) (Q : Exit → AS → Prop) (e : Exit) (a : Act) (w : World) : Prop :=
  match e with
  | .panic _ => False
  | .outgrown => False
  | e => ∃ σ ρ, Q e σ ∧ Rel F ρ σ a w

theorem postOf_mk {F : Fr} {Q : Exit → AS → Prop} {e : Exit} {a : Act} {w : World} {σ : AS} {ρ : Nat → Option (Nat × Nat)} (hp : ∀ c, e ≠ .panic c) (ho : e ≠ .outgrown) (h : Q e σ) (hr : Rel F ρ σ a w) : postOf F Q e a w := by
  cases e <;> first | exact ⟨σ, ρ, h, hr⟩ | exact absurd rfl (hp _) | exact absurd rfl ho

theorem least {p : Nat → Prop} (h : ∃ m, p m) : ∃ m, p m ∧ ∀ k, p k → m ≤ k := by
  obtain ⟨m, hm⟩ := h
  induction m using Nat.strongRecOn with
  | _ m ih =>
    by_cases hex : ∃ k, k < m ∧ p k
    · obtain ⟨k, hk, hp⟩ := hex
      exact ih k hk hp
    · exact ⟨m, hm, fun k hk => Nat.le_of_not_lt fun hlt => hex ⟨k, hlt, hk⟩⟩

section
variable {P : Program} {T : Nat → Option TY} {tbl : Tbl} (hT : TOk P T) (ht : TblOk P tbl) (hmix : P.follows .mixedOrders = true)
include hT ht hmix

omit hT hmix in
theorem ranges_ok {Fe : Fence} {n : Nat} (hFe : Wide Fe) (hro : Fe.round = none) (hn : 4 ≤ n) {F : Fr} {ρ : Nat → Option (Nat × Nat)} {σ : AS} {a : Act} {w : World} {g : Operand} {p d rid : Nat} {o : Oper} {b : Code}
    {B : (Exit → AS → Prop) → AS → Prop} {Q : Exit → AS → Prop} (hasg : asgOk p o = true) (hdst : o.dst = some d) (hp : p < F.nt) (hd : d < F.nt) (hr : Rel F ρ σ a w) (h : Ranges tbl B g p d Q σ)
    (hB : ∀ (l : Nat) (F' : Fr) (Q' : Exit → AS → Prop) (σ' : AS) (ρ' : Nat → Option (Nat × Nat)) (a' : Act) (w' : World), F'.nt = F.nt → B Q' σ' → Rel F' ρ' σ' a' w' → b.wpIn (Fe.inRound l) (n - 1 - 1) P (postOf F' Q') a' w') :
    (Code.rangeFunc g #[p] (.region rid #[o] false) b).wpIn Fe n P (postOf F Q) a w := by
  unfold Ranges at h
  split at h
  · rename_i f id gen hg
    split at h
    · rename_i x g' ho
      split at h
      · rename_i hgen
        have hgen : gen = g' := of_decide_eq_true hgen
        subst hgen
        rw [okk_iff] at h
        obtain ⟨it, hit, J, hJ0, hJid, hJb, hJd⟩ := h
        have hI := ht.it f x it hit
        have hv := eval_ok hr g
        rw [hg] at hv
        obtain ⟨vs, hvs, hvl, hv0⟩ : ∃ vs, a.eval g = .func (.func f) #[] vs ∧ vs.size = 1 ∧ RelV w (Wrt F ρ σ.objs) ρ σ.objs (.ptr id gen 0 0) (vs.getD 0 undef) := by
          generalize hgv : a.eval g = gv at hv
          cases hv with
          | fn _ _ vs hl hc => exact ⟨vs, rfl, by simpa using hl.symm, by simpa using hc 0 (by simp)⟩
        obtain ⟨bk, δ, hρ, hpv⟩ : ∃ bk δ, ρ id = some (bk, δ) ∧ vs.getD 0 undef = .pointer (some ⟨bk, δ + (0 * 1 + 0), none⟩) := by
          generalize hgv : vs.getD 0 undef = gv at hv0
          cases hv0 with
          | ptr _ _ _ _ _ o' ho' hle hs hc =>
            rw [ho] at ho'
            cases ho'
            obtain ⟨bk, δ, h1, h2⟩ := hc rfl
            exact ⟨bk, δ, h1, h2⟩
        have hvs1 : vs = #[.pointer (some ⟨bk, δ + (0 * 1 + 0), none⟩)] := by
          apply Array.ext_getElem?
          intro i
          cases i with
          | zero =>
            rw [Array.getD_eq_getD_getElem?] at hpv
            have : (0 : Nat) < vs.size := by omega
            simp [this] at hpv ⊢
            exact hpv
          | succ i => simp [Array.getElem?_eq_none (show vs.size ≤ i + 1 by omega)]
        have cellAt : ∀ {F' : Fr} {ρ' : Nat → Option (Nat × Nat)} {ob : List AObj} {W : World}, RelH F' ρ' ob W → ob[id]? = some (.var [.d x] gen) → ρ' id = some (bk, δ) → W.cell? ⟨bk, δ + (0 * 1 + 0), none⟩ = some x.val := by
          intro F' ρ' ob W hh hob hρ'
          obtain ⟨_, hl⟩ := hh.ob id _ hob
          rw [hρ'] at hl
          obtain ⟨c, e, fz, k1, _, k3, k4⟩ := hl
          have k5 := k4 0 0 (by simp [AObj.rows]) (by simp [AObj.sz])
          have k6 : acell (AObj.var [.d x] gen).rows 0 0 = .d x := rfl
          rw [k6] at k5
          have hlt : δ + (0 * 1 + 0) < c.size := by simp [AObj.rows, AObj.sz] at k3; omega
          rw [cell_of_heap k1 hlt]
          congr 1
          have k7 : RelV W _ ρ' ob (.d x) (c.getD (δ + (0 * 1 + 0)) undef) := k5
          generalize c.getD (δ + (0 * 1 + 0)) undef = cv at k7
          cases k7 with
          | d _ _ hd => exact hI.self _ _ _ hd
        have hcell := cellAt hr.hp ho hρ
        let F1 := roundF F ρ σ.objs w
        have hr1 : Rel F1 ρ σ { tmps := a.tmps, defers := [] } w := ⟨hr.nt, Marks.nil rfl, hr.tm, hr.hp.base⟩
        let I : List {r : D // it.dom r} → World → Prop := fun pre W => ∃ ob ρ', J (pre.map (·.1)) ob ∧ Rel F1 ρ' ⟨σ.tmps, ob⟩ { tmps := a.tmps, defers := [] } W
        let Ix : Code → List {r : D // it.dom r} → World → Prop := fun c _ W => ∃ e ob ρ', toCode e = some c ∧ (noMaps ob = true ∧ Q e ⟨σ.tmps, ob⟩) ∧ Rel F1 ρ' ⟨σ.tmps, ob⟩ { tmps := a.tmps, defers := [] } W
        have keepAt : ∀ {ρ' : Nat → Option (Nat × Nat)} {ob : List AObj} {W : World}, RelH F1 ρ' ob W → ob[id]? = some (.var [.d x] gen) → ρ' id = some (bk, δ) := by
          intro ρ' ob W hh hob
          obtain ⟨o', h1, h2, h3⟩ := hh.ext.ext id _ ho
          rw [hob] at h1
          cases h1
          exact (h3 rfl).2.2.trans hρ
        refine wpIn_rangeFunc_ownG hro (by omega) (gf := f) (lb := #[.pointer (some ⟨bk, δ + (0 * 1 + 0), none⟩)]) (hvs.trans (by rw [hvs1])) (hFe.fn f) hI.enters
          (hI.seq Fe (n - 1) w _ hFe hro (by omega) hcell) (fun h k => kpC_t h k) (fun W l o o' _ hl hc _ => kpC_b W l o o' hl hc) (Go.RowKit.Below.refl _ _) (fun _ => rfl) I Ix ?_ ?_ ⟨σ.objs, ρ, hJ0, hr1⟩
          (fun r => { tmps := (a.tmps.setIfInBounds p r.1.val).setIfInBounds d r.1.val, defers := [] }) ?_ ?_ ?_ ?_
        · rintro pre W W' row ⟨ob, ρ', h1, h2⟩ hgr hrow
          exact ⟨ob, ρ', h1, h2.turn rfl rfl (turned_of_grown hgr hrow) (Nat.le_refl _) (hJid _ _ h1).2⟩
        · rintro c pre W W' row ⟨e, ob, ρ', h0, h1, h2⟩ hgr hrow
          exact ⟨e, ob, ρ', h0, h1, h2.turn rfl rfl (turned_of_grown hgr hrow) (Nat.le_refl _) h1.1⟩
        · intro l r W K hK
          refine wpIn_region ?_
          show wpOpsIn _ _ P #[o] _ [0] _ _
          rw [wpOpsIn_cons]
          unfold asgOk at hasg
          split at hasg
          · rename_i q d' hop hd' hgd
            have hqp : q = p := by simpa using hasg
            subst hqp
            unfold wpOpIn
            simp only [List.getElem?_toArray, List.getElem?_cons_zero, Region.wanted, hgd, if_true]
            refine ⟨fun f _ => hFe.fn f, ?_⟩
            rw [Oper.semAt_eq _ _ _ (by intro c; rw [hop]; intro h; cases h)]
            have hrun : (execOp (Act.eval { tmps := (Array.zip #[q] #[r.1.val]).foldl (fun t (p, v) => t.setIfInBounds p v) a.tmps, defers := [] }) o).run P W = .ok (.value r.1.val) W := by
              have hq : q < a.tmps.size := by rw [hr.nt]; exact hp
              simp [execOp, hop, Act.eval, Array.getD_eq_getD_getElem?, hq]
            rw [hrun]
            have hK' : K (Act.put { tmps := (Array.zip #[q] #[r.1.val]).foldl (fun t (p, v) => t.setIfInBounds p v) a.tmps, defers := [] } o.dst r.1.val) W := by
              rw [hdst]
              simpa [Act.put] using hK
            exact hK'
          · cases hasg
        · rintro l pre r W ⟨ob, ρ', hJ, hrel⟩ hlen
          have hrel2 : Rel (roundF F1 ρ' ob W) ρ' ⟨(d, .d r.1) :: (p, .d r.1) :: σ.tmps, ob⟩ { tmps := (a.tmps.setIfInBounds p r.1.val).setIfInBounds d r.1.val, defers := [] } W := by
            have h0 : Rel (roundF F1 ρ' ob W) ρ' ⟨σ.tmps, ob⟩ { tmps := a.tmps, defers := [] } W := ⟨hrel.nt, Marks.nil rfl, hrel.tm, hrel.hp.base⟩
            have hv : RelV W (Wrt (roundF F1 ρ' ob W) ρ' ob) ρ' ob (.d r.1) r.1.val := .d _ _ (hI.dom r.1 r.2 _ _)
            have h1 := h0.puto (dst := some p) (fun t e => by cases e; exact hp) hv
            exact h1.puto (dst := some d) (fun t e => by cases e; exact hd) hv
          refine wpIn_mono (hB l (roundF F1 ρ' ob W) _ _ ρ' _ W rfl (hJb _ r.1 ob hJ r.2 (by simpa using hlen)) hrel2) ?_
          have fin : ∀ {σ' : AS} {ρ'' : Nat → Option (Nat × Nat)} {a' : Act} {W' : World}, Rel (roundF F1 ρ' ob W) ρ'' σ' a' W' → Rel F1 ρ'' ⟨σ.tmps, σ'.objs⟩ { tmps := a.tmps, defers := [] } W' ∧ KeepsFrom w.heap.size W W' := by
            intro σ' ρ'' a' W' hr'
            exact ⟨hrel.round_end rfl rfl hr', hr'.hp.frm.size, fun k o _ hk ho => hrel.hp.round_keeps hr'.hp hk ho (.inl (hJid _ _ hJ).2)⟩
          intro e a' W' hp'
          cases e with
          | normal =>
            obtain ⟨σ', ρ'', hq, hr'⟩ := hp'
            have hq : J (pre.map (·.1) ++ [r.1]) σ'.objs := hq
            obtain ⟨f1, f2⟩ := fin hr'
            refine ⟨f2, fun _ => ?_, σ'.objs, ρ'', by simpa using hq, f1⟩
            exact cellAt f1.hp (hJid _ _ hq).1 (keepAt f1.hp (hJid _ _ hq).1)
          | ret => obtain ⟨σ', ρ'', hq, hr'⟩ := hp'; exact ⟨(fin hr').2, .ret, σ'.objs, ρ'', rfl, hq, (fin hr').1⟩
          | exit i => obtain ⟨σ', ρ'', hq, hr'⟩ := hp'; exact ⟨(fin hr').2, .exit i, σ'.objs, ρ'', rfl, hq, (fin hr').1⟩
          | goto i => obtain ⟨σ', ρ'', hq, hr'⟩ := hp'; exact ⟨(fin hr').2, .goto i, σ'.objs, ρ'', rfl, hq, (fin hr').1⟩
          | panic c => exact hp'.elim
          | outgrown => exact hp'.elim
        · rintro D xs W hD hS ⟨ob, ρ', hJ, hrel⟩ hW
          exact ⟨⟨σ.tmps, ob⟩, ρ', hJd _ _ hS hJ, Rel.behind (b := { tmps := a.tmps, defers := [] }) hr hrel hD hW⟩
        · rintro D c pre W hD _ ⟨e, ob, ρ', hc, hQ, hrel⟩ hW
          have hrel' := Rel.behind (b := { tmps := a.tmps, defers := [] }) hr hrel hD hW
          cases e <;> cases hc
          all_goals first | exact wpIn_exit (show postOf F Q _ _ _ from ⟨_, _, hQ.2, hrel'⟩) | exact wpIn_ret (show postOf F Q _ _ _ from ⟨_, _, hQ.2, hrel'⟩) | exact wpIn_goto (show postOf F Q _ _ _ from ⟨_, _, hQ.2, hrel'⟩)
      · exact h.elim
    · exact h.elim
  · exact h.elim

omit hT ht hmix in
theorem noRF_l {x : Code} {p : Prop} {b : Bool} (h : (noRF x && b) = true ∨ p) : noRF x = true ∨ p := h.imp (fun h => by simp at h; exact h.1) id
omit hT ht hmix in
theorem noRF_r {y : Code} {p : Prop} {b : Bool} (h : (b && noRF y) = true ∨ p) : noRF y = true ∨ p := h.imp (fun h => by simp at h; exact h.2) id


theorem rwp_sound : ∀ (c : Code) (Fe : Fence) (n : Nat) (F : Fr), Wide Fe → (noRF c = true ∨ (Fe.round = none ∧ 4 ≤ n)) → ∀ (Q : Exit → AS → Prop) (σ : AS) (ρ : Nat → Option (Nat × Nat)) (a : Act) (w : World), codeOk tbl F.nt c = true → rwp T tbl (strip tbl c) Q σ → Rel F ρ σ a w →
    c.wpIn Fe n P (postOf F Q) a w := by
  intro c
  induction c with
  | skip => intro Fe n F hFe hrf Q σ ρ a w _ h hr; exact wpIn_skip ⟨σ, ρ, h, hr⟩
  | label l => intro Fe n F hFe hrf Q σ ρ a w _ h hr; exact wpIn_label ⟨σ, ρ, h, hr⟩
  | exit id => intro Fe n F hFe hrf Q σ ρ a w _ h hr; exact wpIn_exit ⟨σ, ρ, h, hr⟩
  | goto l => intro Fe n F hFe hrf Q σ ρ a w _ h hr; exact wpIn_goto ⟨σ, ρ, h, hr⟩
  | ret => intro Fe n F hFe hrf Q σ ρ a w _ h hr; exact wpIn_ret ⟨σ, ρ, h, hr⟩
  | rangeFunc g ps as b _ ihb =>
    intro Fe n F hFe hrf Q σ ρ a w hok h hr
    have hn := hrf.resolve_left (by simp [noRF])
    have ihb' := fun l F' => ihb (Fe.inRound l) (n - 1 - 1) F' (hFe.inRound l)
    clear ihb
    rcases hps : ps.toList with _ | ⟨p, _ | ⟨p2, pl⟩⟩
    · simp [strip, hps, rwp] at h
    · cases as with
      | region rid ops dr =>
        cases dr with
        | false =>
          rcases ho : ops.toList with _ | ⟨o, _ | ⟨o2, ol⟩⟩
          · simp [strip, hps, ho, rwp] at h
          · simp only [strip, hps, ho] at h
            simp only [codeOk, hps, ho, Bool.and_eq_true] at hok
            obtain ⟨⟨⟨⟨h1, h2⟩, h3⟩, h4⟩, h5⟩ := hok
            cases hd : o.dst with
            | none => simp [hd, rwp] at h
            | some d =>
              rw [hd] at h h3
              have e1 : ps = #[p] := by rw [← Array.toArray_toList (xs := ps), hps]
              have e2 : ops = #[o] := by rw [← Array.toArray_toList (xs := ops), ho]
              subst e1 e2
              refine ranges_ok ht hFe hn.1 hn.2 h1 hd (by simpa using h2) (by simpa using h3) hr h fun l F' Q' σ' ρ' a' w' hF' hq hr' => ?_
              exact ihb' l F' (.inl h4) Q' σ' ρ' a' w' (hF' ▸ h5) hq hr'
          · simp [strip, hps, ho, rwp] at h
        | true => simp [strip, hps, rwp] at h
      | _ => simp [strip, hps, rwp] at h
    · simp [strip, hps, rwp] at h
  | scope b _ => intro Fe n F hFe hrf Q σ ρ a w _ h hr; exact h.elim
  | refuse s => intro Fe n F hFe hrf Q σ ρ a w _ h hr; exact h.elim
  | region id ops draw =>
    intro Fe n F hFe hrf Q σ ρ a w hok h hr
    simp only [codeOk, Bool.and_eq_true, List.all_eq_true] at hok
    obtain ⟨hok1, hok2⟩ := hok
    cases hd : tbl.d id with
    | some t =>
      simp only [hd, Bool.and_eq_true] at hok2
      obtain ⟨rfl, htree⟩ := hok2
      simp only [treeOk, Bool.and_eq_true] at htree
      obtain ⟨⟨hwf, htab⟩, hcov⟩ := htree
      simp only [strip, hd, rwp] at h
      obtain ⟨τ, hrun, hQ⟩ := h
      let G : AS → Prop := fun σ' => ∃ υ, Eqv σ' υ ∧ WeakN σ.objs.length υ τ
      have hG : ∀ σ1 σ2, Eqv σ1 σ2 → G σ1 → G σ2 := fun σ1 σ2 e ⟨υ, h1, h2⟩ => ⟨υ, e.symm.trans h1, h2⟩
      have hall : AllRun T tbl ops G (2 ^ ops.size - 1) σ := by
        refine cov_ok hG htab t _ 0 σ hcov (fun j hj => ?_) (fun j hj => by simp at hj) ((rtree_run (fun o ho => (hok1 o ho).2) t _ _ hrun).imp (fun σ' h => ⟨σ', .refl _, h⟩) t σ)
        rw [Nat.testBit_two_pow_sub_one] at hj
        simpa using hj
      refine wpIn_region_any hmix ?_
      have hr' : Rel F ρ σ a { w with drawn := w.drawn + 1 } := hr.world ⟨rfl, rfl, rfl, Nat.le_refl _, fun _ _ _ => rfl, fun b c e f h => ⟨c, f, h, rfl⟩⟩
      have hdst : ∀ (i : Nat) (o : Oper), ops[i]? = some o → ∀ t, o.dst = some t → t < F.nt := by
        intro i o ho t htt
        have := (hok1 o (by simpa using Array.mem_of_getElem? ho)).1
        rw [htt] at this
        simpa using this
      have hn0 : F.o0.length ≤ σ.objs.length := by
        rcases Nat.lt_or_ge σ.objs.length F.o0.length with h | h
        · obtain ⟨o', h1, _⟩ := hr.hp.ext.ext σ.objs.length _ (List.getElem?_eq_getElem h)
          simp at h1
        · exact h
      refine any_run hT ht hFe hwf hdst (Q := postOf F Q) (G := G) (fun τ' ρ' a' w' ⟨υ, h1, h2⟩ hrel => ?_) ops.size _ _ σ ρ a _ (by simp) ?_ ?_ ?_ hall hr'
      · obtain ⟨ρ2, hr2⟩ := h2.ok F ρ' a' w' hn0 (h1.rel hrel)
        exact ⟨τ, ρ2, hQ, hr2⟩
      · intro j
        rw [Nat.testBit_two_pow_sub_one]
        by_cases hj : j < ops.size
        · simp [Array.getD_eq_getD_getElem?, hj]
        · simp [Array.getD_eq_getD_getElem?, hj]
      · intro i j hi hl _
        simp [Array.getD_eq_getD_getElem?, hi] at hl
      · have : (left ops (Array.replicate ops.size false)).length ≤ (List.range ops.size).length := List.length_filterMap_le _ _
        simpa using this
    | none =>
    simp only [hd] at hok2
    simp only [strip, hd] at h
    obtain ⟨τ, hst, hK⟩ := rrun_steps ops.toList σ.tmps σ.objs (fun o ho => (hok1 o ho).2) h
    have hdst : ∀ (i : Nat) (o : Oper), ops[i]? = some o → ∀ t, o.dst = some t → t < F.nt := by
      intro i o ho t htt
      have := (hok1 o (by simpa using Array.mem_of_getElem? ho)).1
      rw [htt] at this
      simpa using this
    cases draw with
    | false =>
      refine wpIn_region ?_
      have key : ∀ (l : List Oper) (k : Nat), (∀ j, l[j]? = ops[k + j]?) → ∀ (σ : AS) (ρ : Nat → Option (Nat × Nat)) (a : Act) (w : World), asteps T tbl ops l σ = some τ → Rel F ρ σ a w →
          wpOpsIn Fe n P ops (postOf F Q) (List.range' k l.length) a w := by
        intro l
        induction l with
        | nil => intro k _ σ ρ a w hs hr; cases hs; exact ⟨τ, ρ, hK, hr⟩
        | cons o l ih =>
          intro k hl σ ρ a w hs hr
          have h0 : ops[k]? = some o := by simpa using (hl 0).symm
          simp only [asteps] at hs
          cases h1 : astep T tbl ops o σ with
          | none => rw [h1] at hs; cases hs
          | some σ1 =>
            rw [h1] at hs
            simp only [List.length_cons, List.range'_succ]
            rw [wpOpsIn_cons]
            exact astep_ok hT ht hFe hr h0 (hdst k o h0) h1 _ _ fun ρ' a' w' hr' =>
              ih (k + 1) (fun j => by have := hl (j + 1); simpa [Nat.add_assoc, Nat.add_comm 1 j] using this) σ1 ρ' a' w' hs hr'
      have := key ops.toList 0 (by simp) σ ρ a w hst hr
      rw [List.range_eq_range', ← Array.length_toList]
      exact this
    | true =>
      refine wpIn_region_any hmix ?_
      have hreg : regOk tbl ops = true := by simpa using hok2
      have hr' : Rel F ρ σ a { w with drawn := w.drawn + 1 } := hr.world ⟨rfl, rfl, rfl, Nat.le_refl _, fun _ _ _ => rfl, fun b c e f h => ⟨c, f, h, rfl⟩⟩
      have hleft : left ops (Array.replicate ops.size false) = ops.toList := by
        unfold left
        have : ∀ i ∈ List.range ops.size, (if (Array.replicate ops.size false).getD i true = true then none else ops[i]?) = ops[i]? := by
          intro i hi
          have := List.mem_range.1 hi
          simp [Array.getD_eq_getD_getElem?, this]
        rw [filterMap_congr' _ this]
        apply List.ext_getElem?
        intro i
        have key : ∀ (k m : Nat), k + m = ops.size → (List.range' k m).filterMap (fun i => ops[i]?) = ops.toList.drop k := by
          intro k m
          induction m generalizing k with
          | zero => intro h; simp; omega
          | succ m ih =>
            intro h
            have hk : k < ops.toList.length := by simp; omega
            rw [List.range'_succ, List.filterMap_cons, List.drop_eq_getElem_cons hk]
            have : ops[k]? = some ops.toList[k] := by simp [show k < ops.size by omega]
            rw [this]
            simp only [ih (k + 1) (by omega)]
        rw [List.range_eq_range', key 0 ops.size (by omega), List.drop_zero]
      refine any_ok hT ht hFe hreg hdst (Q := postOf F Q) (τ := τ) (fun ρ' a' w' h => ⟨τ, ρ', hK, h⟩) ops.size _ σ ρ a _ (by simp) ?_ ?_ ?_ hr'
      · intro i j hi hl _
        simp [Array.getD_eq_getD_getElem?, hi] at hl
      · rw [hleft]; simp
      · rw [hleft]; exact ⟨τ, hst, .refl τ⟩
  | seq x y ihx ihy =>
    intro Fe n F hFe hrf Q σ ρ a w hok h hr
    simp only [codeOk, Bool.and_eq_true] at hok
    refine wpIn_seq (wpIn_mono (ihx Fe n F hFe (noRF_l hrf) _ σ ρ a w hok.1 h hr) ?_)
    intro e a' w' hp
    cases e <;> first | exact hp | skip
    obtain ⟨σ', ρ', hq, hr'⟩ := hp
    exact ihy Fe n F hFe (noRF_r hrf) Q σ' ρ' a' w' hok.2 hq hr'
  | cond c x y ihx ihy =>
    intro Fe n F hFe hrf Q σ ρ a w hok h hr
    simp only [codeOk, Bool.and_eq_true] at hok
    simp only [strip, rwp] at h
    split at h
    · rename_i b hc
      have hv := eval_ok hr c
      rw [hc] at hv
      refine wpIn_cond (relD_bool hv) ?_
      cases b
      · exact ihy Fe n F hFe (noRF_r hrf) Q σ ρ a w hok.2 (h.2 rfl) hr
      · exact ihx Fe n F hFe (noRF_l hrf) Q σ ρ a w hok.1 (h.1 rfl) hr
    · rename_i hc
      have hv := eval_ok hr c
      rw [hc] at hv
      obtain ⟨b, hb⟩ := relV_ub hv
      refine wpIn_cond hb ?_
      cases b
      · exact ihy Fe n F hFe (noRF_r hrf) Q σ ρ a w hok.2 h.2 hr
      · exact ihx Fe n F hFe (noRF_l hrf) Q σ ρ a w hok.1 h.1 hr
    · exact h.elim
  | block id c ih =>
    intro Fe n F hFe hrf Q σ ρ a w hok h hr
    refine wpIn_block (wpIn_mono (ih Fe n F hFe hrf _ σ ρ a w hok h hr) ?_)
    intro e a' w' hp
    cases e with
    | exit id' =>
      obtain ⟨σ', ρ', hq, hr'⟩ := hp
      simp only [blockK] at hq
      simp only [Exit.inBlock]
      split
      · rename_i h1; rw [if_pos h1] at hq; exact ⟨σ', ρ', hq, hr'⟩
      · rename_i h1; rw [if_neg h1] at hq; exact ⟨σ', ρ', hq, hr'⟩
    | _ => exact hp
  | loop c ih =>
    intro Fe n F hFe hrf Q σ ρ a w hok h hr
    obtain ⟨I, k, ⟨τ0, hw0, hI⟩, hround⟩ := h
    have hn0 : F.o0.length ≤ σ.objs.length := by
      rcases Nat.lt_or_ge σ.objs.length F.o0.length with h | h
      · obtain ⟨o', h1, _⟩ := hr.hp.ext.ext σ.objs.length _ (List.getElem?_eq_getElem h)
        simp at h1
      · exact h
    obtain ⟨ρ0, hr0⟩ := hw0.ok _ _ _ _ hn0 hr
    let J : Act → World → Nat → Prop := fun a w m => ∃ σ ρ, I m σ ∧ Rel F ρ σ a w
    let μ : Act → World → Nat := fun a w => open Classical in if h : ∃ m, J a w m then Classical.choose (least h) else 0
    have hμ : ∀ a w m, J a w m → J a w (μ a w) ∧ μ a w ≤ m := by
      intro a w m hm
      have hex : ∃ m, J a w m := ⟨m, hm⟩
      simp only [μ, dif_pos hex]
      obtain ⟨h1, h2⟩ := Classical.choose_spec (least hex)
      exact ⟨h1, h2 m hm⟩
    refine wpIn_loop (fun a w => ∃ m, J a w m) μ ⟨k, τ0, ρ0, hI, hr0⟩ ?_
    rintro a w ⟨m, hm⟩
    obtain ⟨⟨σ1, ρ1, hI1, hr1⟩, _⟩ := hμ a w m hm
    refine wpIn_mono (ih Fe n F hFe hrf _ σ1 ρ1 a w hok (hround _ _ hI1) hr1) ?_
    intro e a' w' hp
    cases e <;> first | exact hp | skip
    obtain ⟨σ', ρ', ⟨m', τ, hlt, hweak, hIm⟩, hr'⟩ := hp
    obtain ⟨ρ2, hr2⟩ := hweak.ok _ _ _ _ hn0 hr'
    have hJ : J a' w' m' := ⟨τ, ρ2, hIm, hr2⟩
    exact ⟨⟨m', hJ⟩, Nat.lt_of_le_of_lt (hμ a' w' m' hJ).2 hlt⟩
end

/-- What a text does from a state on, whatever agrees with that. -/
structure RW (P : Program) (nt : Nat) (c : Code) (Q : Exit → AS → Prop) (σ : AS) : Prop where
  ok : ∀ (F : Fr) (ρ : Nat → Option (Nat × Nat)) (a : Act) (w : World), F.nt = nt → Rel F ρ σ a w → c.wpIn Fence.wide 9 P (postOf F Q) a w

theorem RW.of {P : Program} {T : Nat → Option TY} {tbl : Tbl} (hT : TOk P T) (ht : TblOk P tbl) (hmix : P.follows .mixedOrders = true) {nt : Nat} {c : Code} {Q : Exit → AS → Prop} {σ : AS} (hok : codeOk tbl nt c = true) (h : rwp T tbl (strip tbl c) Q σ) : RW P nt c Q σ :=
  ⟨fun F ρ a w hF hr => rwp_sound hT ht hmix c Fence.wide 9 F wide_wide (.inr ⟨rfl, by omega⟩) _ _ ρ _ w (hF ▸ hok) h hr⟩

theorem RW.weak {P : Program} {nt : Nat} {c : Code} {Q : Exit → AS → Prop} {σ τ : AS} (hw : Weak σ τ) (h : RW P nt c Q τ) : RW P nt c Q σ :=
  ⟨fun F ρ a w hF hr => by
    obtain ⟨ρ', hr'⟩ := hw F ρ a w hr
    exact h.ok F ρ' a w hF hr'⟩

/-- What holds between two parts of a text. -/
theorem RW.seq {P : Program} {nt : Nat} {x y : Code} {Q : Exit → AS → Prop} {σ : AS} (Mid : AS → Prop) (hx : RW P nt x (thenK Mid Q) σ) (hy : ∀ σ', Mid σ' → RW P nt y Q σ') : RW P nt (.seq x y) Q σ :=
  ⟨fun F ρ a w hF hr => by
    refine wpIn_seq (wpIn_mono (hx.ok F ρ a w hF hr) ?_)
    intro e a' w' hp
    cases e <;> first | exact hp | skip
    obtain ⟨σ', ρ', hq, hr'⟩ := hp
    exact (hy σ' hq).ok F ρ' a' w' hF hr'⟩

end Go.AI
