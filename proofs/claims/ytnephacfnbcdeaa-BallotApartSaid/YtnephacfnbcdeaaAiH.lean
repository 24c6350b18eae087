/- Code over abstract states, stripped of what does not matter; that it does what it says; contracts of functions. -/
import Derived.Test.YtnephacfnbcdeaaAiG
namespace Go.AI
set_option linter.unusedVariables false

structure ROp where
  dst : Option Nat
  op : Op
  g : Option (Nat × Bool)

inductive RC where
  | skip
  | reg (l : List ROp)
  | seq (a b : RC)
  | cond (c : Operand) (t e : RC)
  | block (id : Nat) (c : RC)
  | loop (c : RC)
  | exit (id : Nat)
  | goto (l : Nat)
  | ret
  | bad

def stripG (ops : Array Oper) : Option (Nat × Bool) → Option (Nat × Bool)
  | none => none
  | some (j, w) => match (ops[j]?).bind (·.dst) with
    | some t => some (t, w)
    | none => some (1000000000, w)

def stripO (ops : Array Oper) (o : Oper) : ROp := ⟨o.dst, o.op, stripG ops o.guard⟩

def strip : Code → RC
  | .skip => .skip
  | .region _ ops _ => .reg (ops.toList.map (stripO ops))
  | .seq a b => .seq (strip a) (strip b)
  | .cond c t e => .cond c (strip t) (strip e)
  | .block id c => .block id (strip c)
  | .loop c => .loop (strip c)
  | .exit id => .exit id
  | .label _ => .skip
  | .goto l => .goto l
  | .ret => .ret
  | _ => .bad

/-- What a walk needs of a text beside its operations: slots that are there, guards that name a slot, orders that do not matter. -/
def codeOk (nt : Nat) : Code → Bool
  | .region _ ops draw => ops.toList.all (fun o => (match o.dst with | some t => decide (t < nt) | none => true) && (match o.guard with | none => true | some (j, _) => ((ops[j]?).bind (·.dst)).isSome))
      && (!draw || regOk ops)
  | .seq a b => codeOk nt a && codeOk nt b
  | .cond _ t e => codeOk nt t && codeOk nt e
  | .block _ c => codeOk nt c
  | .loop c => codeOk nt c
  | _ => true

def okk {α : Type} (o : Option α) (k : α → Prop) : Prop :=
  match o with
  | some r => k r
  | none => False

theorem okk_iff {α : Type} (o : Option α) (k : α → Prop) : okk o k ↔ ∃ r, o = some r ∧ k r := by
  cases o <;> simp [okk]

/-- A condition on the side. -/
structure Side (p : Prop) : Prop where
  ok : p

/-- A value is looked at, up to its first sign; a bool is named anew. -/
def force (v : AV) (k : AV → Prop) : Prop :=
  match v with
  | .d (.bool b) => ∀ c : Bool, c = b → k (.d (.bool c))
  | .d (.int q n) => k (.d (.int q n))
  | .d (.str s) => k (.d (.str s))
  | .d (.sl s) => k (.d (.sl s))
  | .d .nilp => k (.d .nilp)
  | .d .nilfn => k (.d .nilfn)
  | .d .nilif => k (.d .nilif)
  | .d .nilmap => k (.d .nilmap)
  | .win a b c d => k (.win a b c d)
  | .ptr a b c d => k (.ptr a b c d)
  | .rptr a b => k (.rptr a b)
  | .nils => k .nils
  | .agg l => k (.agg l)
  | .tup l => k (.tup l)
  | .fn f l => k (.fn f l)
  | .skip => k .skip
  | .undef => k .undef

theorem force_elim {v : AV} {k : AV → Prop} (h : force v k) : k v := by
  unfold force at h
  split at h <;> first | exact h _ rfl | exact h

/-- A value is looked at, up to its first sign. -/
def see (v : AV) (k : AV → Prop) : Prop :=
  match v with
  | .d (.bool b) => k (.d (.bool b))
  | .d (.int q n) => k (.d (.int q n))
  | .d (.str s) => k (.d (.str s))
  | .d (.sl s) => k (.d (.sl s))
  | .d .nilp => k (.d .nilp)
  | .d .nilfn => k (.d .nilfn)
  | .d .nilif => k (.d .nilif)
  | .d .nilmap => k (.d .nilmap)
  | .win a b c d => k (.win a b c d)
  | .ptr a b c d => k (.ptr a b c d)
  | .rptr a b => k (.rptr a b)
  | .nils => k .nils
  | .agg l => k (.agg l)
  | .tup l => k (.tup l)
  | .fn f l => k (.fn f l)
  | .skip => k .skip
  | .undef => k .undef

theorem see_elim {v : AV} {k : AV → Prop} (h : see v k) : k v := by
  unfold see at h
  split at h <;> exact h

/-- A list is looked at, up to its end. -/
def seeL {α : Type} (l : List α) (k : List α → Prop) : Prop :=
  match l with
  | [] => k []
  | x :: l => seeL l fun m => k (x :: m)

theorem seeL_elim {α : Type} : ∀ {l : List α} {k : List α → Prop}, seeL l k → k l := by
  intro l
  induction l with
  | nil => intro k h; exact h
  | cons x l ih => intro k h; exact ih h

def elemW (T : Nat → Option TY) (t : Nat) (x : AV) (n : Int) (objs : List AObj) (k : AV → Prop) : Prop :=
  match x with
  | .d (.sl rows) => match elemT T t with
    | some y => ∃ r, Side (0 ≤ n ∧ n < rows.length ∧ rows.getD n.toNat [] = r) ∧ (match decide (r.length = y.size) with | true => k (.rptr r 0) | false => False)
    | none => False
  | .win id off len gen => match elemT T t, objs[id]? with
    | some y, some o => Side ((gen = o.gen ∧ o.sz = y.size) ∧ 0 ≤ n ∧ n < len) ∧ k (.ptr id gen (off + n.toNat) 0)
    | _, _ => False
  | .ptr id gen row col => match arrT T t with
    | some (len, y) => Side (0 ≤ n ∧ n < len) ∧ k (.ptr id gen row (col + n.toNat * y.size))
    | none => False
  | .rptr row j => match arrT T t with
    | some (len, y) => Side (0 ≤ n ∧ n < len) ∧ k (.rptr row (j + n.toNat * y.size))
    | none => False
  | _ => False

theorem elemW_elim {T : Nat → Option TY} {t : Nat} {x : AV} {n : Int} {objs : List AObj} {k : AV → Prop} (h : elemW T t x n objs k) : ∃ r, elemA T t x n objs = some r ∧ k r := by
  unfold elemW at h
  unfold elemA
  split at h
  · split at h
    · rename_i y hy
      obtain ⟨r, ⟨h1, h2, rfl⟩, h3⟩ := h
      split at h3
      · rename_i hd
        refine ⟨_, ?_, h3⟩
        simp only [hy]
        rw [if_pos ⟨⟨h1, h2⟩, of_decide_eq_true hd⟩]
      · exact h3.elim
    · exact h.elim
  · split at h
    · rename_i y o hy ho
      obtain ⟨⟨h1⟩, h2⟩ := h
      refine ⟨_, ?_, h2⟩
      simp only [hy, ho]
      rw [if_pos h1]
    · exact h.elim
  · split at h
    · rename_i len y hy
      obtain ⟨⟨h1⟩, h2⟩ := h
      refine ⟨_, ?_, h2⟩
      simp only [hy]
      rw [if_pos h1]
    · exact h.elim
  · split at h
    · rename_i len y hy
      obtain ⟨⟨h1⟩, h2⟩ := h
      refine ⟨_, ?_, h2⟩
      simp only [hy]
      rw [if_pos h1]
    · exact h.elim
  · exact h.elim

def loadW (y : TY) (a : AV) (objs : List AObj) (k : AV → Prop) : Prop :=
  match a with
  | .ptr id gen row col => match objs[id]? with
    | some (.var cells g) => match decide (gen = g), row with
      | true, 0 => okk (partA y cells col) k
      | _, _ => False
    | some (.arr rs n g) => ∃ r, Side (gen = g ∧ row < rs.length ∧ rs.getD row [] = r) ∧ okk (partD y r col) k
    | none => False
  | .rptr row j => okk (partD y row j) k
  | _ => False

theorem loadW_elim {y : TY} {a : AV} {objs : List AObj} {k : AV → Prop} (h : loadW y a objs k) : ∃ r, loadA y a objs = some r ∧ k r := by
  unfold loadW at h
  unfold loadA
  split at h
  · split at h
    · rename_i cells g ho
      simp only [ho]
      split at h
      · rename_i hg
        rw [okk_iff] at h
        simp only [hg]
        exact h
      · exact h.elim
    · rename_i rs n g ho
      obtain ⟨r, ⟨h1, h2, rfl⟩, h3⟩ := h
      rw [okk_iff] at h3
      obtain ⟨v, hv, hk⟩ := h3
      simp only [ho]
      exact ⟨v, by rw [if_pos ⟨h1, h2⟩]; exact hv, hk⟩
    · exact h.elim
  · rw [okk_iff] at h; exact h
  · exact h.elim

def sliceW (T : Nat → Option TY) (t : Nat) (x : AV) (lo hi : Int) (objs : List AObj) (k : AV → Prop) : Prop :=
  match x with
  | .d (.sl rows) => match elemT T t with
    | some y => Side ((0 ≤ lo ∧ lo ≤ hi ∧ hi ≤ rows.length) ∧ (rows = [] ∨ (rows.getD 0 []).length = y.size)) ∧ k (.d (.sl ((rows.take hi.toNat).drop lo.toNat)))
    | none => False
  | .d (.str s) => match T t with
    | some ⟨.string, _, _, _⟩ => Side (0 ≤ lo ∧ lo ≤ hi ∧ hi ≤ s.length) ∧ k (.d (.str ((s.take hi.toNat).drop lo.toNat)))
    | _ => False
  | .win id off len gen => match elemT T t, objs[id]? with
    | some y, some o => Side ((gen = o.gen ∧ o.sz = y.size) ∧ 0 ≤ lo ∧ lo ≤ hi ∧ off + hi ≤ o.rows.length) ∧ k (.win id (off + lo.toNat) (hi.toNat - lo.toNat) gen)
    | _, _ => False
  | _ => False

theorem sliceW_elim {T : Nat → Option TY} {t : Nat} {x : AV} {lo hi : Int} {objs : List AObj} {k : AV → Prop} (h : sliceW T t x lo hi objs k) : ∃ r, sliceA T t x lo hi objs = some r ∧ k r := by
  unfold sliceW at h
  unfold sliceA
  split at h
  · split at h
    · rename_i y hy
      obtain ⟨⟨h1⟩, h2⟩ := h
      exact ⟨_, by simp only [hy]; rw [if_pos h1], h2⟩
    · exact h.elim
  · split at h
    · rename_i hy
      obtain ⟨⟨h1⟩, h2⟩ := h
      exact ⟨_, by simp only [hy]; rw [if_pos h1], h2⟩
    · exact h.elim
  · split at h
    · rename_i y o hy ho
      obtain ⟨⟨h1⟩, h2⟩ := h
      exact ⟨_, by simp only [hy, ho]; rw [if_pos h1], h2⟩
    · exact h.elim
  · exact h.elim

def appendW (y : TY) (s : AV) (R : List (List D)) (objs : List AObj) (k : AV → List AObj → Prop) : Prop :=
  match s with
  | .nils => Side ((∀ r ∈ R, r.length = y.size) ∧ 0 < y.size ∧ 0 < y.bytes ∧ R.length * y.bytes ≤ 140737488355328) ∧ seeL (objs ++ [.arr R y.size 0]) fun ob => k (.win objs.length 0 R.length 0) ob
  | .win id off len gen => match objs[id]? with
    | some (.arr rs n g) => (Side (off + len = rs.length ∧ (∀ r ∈ R, r.length = y.size) ∧ 0 < y.size ∧ 0 < y.bytes ∧ gen = g ∧ n = y.size ∧ (len + R.length) * y.bytes ≤ 140737488355328) ∧
          seeL (objs.set id (.arr (rs.drop off ++ R) n (g + 1))) fun ob => k (.win id 0 (len + R.length) (g + 1)) ob) ∨
        (Side (off + len ≠ rs.length ∧ (∀ r ∈ R, r.length = y.size) ∧ 0 < y.size ∧ 0 < y.bytes ∧ gen = g ∧ n = y.size ∧ off + len + R.length ≤ rs.length) ∧
          seeL (objs.set id (.arr (setR rs (off + len) R) n g)) fun ob => k (.win id off (len + R.length) gen) ob)
    | _ => False
  | _ => False

theorem appendW_elim {y : TY} {s : AV} {R : List (List D)} {objs : List AObj} {k : AV → List AObj → Prop} (h : appendW y s R objs k) : ∃ r, appendA y s R objs = some r ∧ k r.1 r.2 := by
  unfold appendW at h
  unfold appendA
  split at h
  · obtain ⟨⟨h1⟩, h2⟩ := h
    exact ⟨(_, _), by rw [if_pos h1], seeL_elim h2⟩
  · split at h
    · rename_i ho
      rcases h with ⟨⟨h0, h1⟩, h2⟩ | ⟨⟨h0, h1⟩, h2⟩
      · exact ⟨(_, _), by simp only [ho, h0, decide_true]; rw [if_pos h1], seeL_elim h2⟩
      · exact ⟨(_, _), by simp only [ho, h0, decide_false]; rw [if_pos h1], seeL_elim h2⟩
    · exact h.elim
  · exact h.elim

def storeW (y : TY) (a v : AV) (objs : List AObj) (k : List AObj → Prop) : Prop :=
  match a with
  | .ptr id gen row col => okk (toCells y v) fun cs => match objs[id]? with
    | some (.var cells g) => match decide (gen = g), row, decide (col + cs.length ≤ cells.length) with
      | true, 0, true => seeL (setR cells col cs) fun cells' => seeL (objs.set id (.var cells' g)) k
      | _, _, _ => False
    | some (.arr rs n g) => okk (allD cs) fun ds => Side (gen = g ∧ row < rs.length ∧ col + ds.length ≤ n) ∧ seeL (objs.set id (.arr (rs.set row (setR (rs.getD row []) col ds)) n g)) k
    | none => False
  | _ => False

def gexec (T : Nat → Option TY) (tbl : Tbl) (op : Op) (tm : List (Nat × AV)) (ob : List AObj) (k : AV → List AObj → Prop) : Prop :=
  match decide (opK op ≤ 1) with
  | true => okk (aVal T tbl op (AS.eval ⟨tm, ob⟩) ob) fun v => force v fun v => k v ob
  | false => okk (aDo T tbl op (AS.eval ⟨tm, ob⟩) ob) fun r => see r.1 fun v => seeL r.2 fun ob' => k v ob'

def callW (T : Nat → Option TY) (tbl : Tbl) (c : Call) (tm : List (Nat × AV)) (ob : List AObj) (k : AV → List AObj → Prop) : Prop :=
  match c.callee with
  | .builtin .append => match c.args.toList, c.argTypes.toList with
    | [s, x], [t, u] => match elemT T t, srcA (AS.eval ⟨tm, ob⟩ x) ob, srcT T u with
      | some y, some R, true => appendW y (AS.eval ⟨tm, ob⟩ s) R ob k
      | _, _, _ => False
    | _, _ => False
  | .builtin .copy => match c.args.toList, c.argTypes.toList with
    | [s, x], [t, u] => match elemT T t, srcA (AS.eval ⟨tm, ob⟩ x) ob, AS.eval ⟨tm, ob⟩ s with
      | some y, some R, .win id off len gen => match ob[id]? with
        | some (.arr rs n g) => Side ((∀ r ∈ R, r.length = y.size) ∧ 0 < y.size ∧ gen = g ∧ n = y.size ∧ off + len ≤ rs.length) ∧
            seeL (ob.set id (.arr (setR rs off (R.take len)) n g)) fun ob' => k (.d (.int .i64 (min R.length len : Nat))) ob'
        | _ => False
      | _, _, _ => False
    | _, _ => False
  | _ => gexec T tbl (.call c) tm ob k

def rexec (T : Nat → Option TY) (tbl : Tbl) (op : Op) (tm : List (Nat × AV)) (ob : List AObj) (k : AV → List AObj → Prop) : Prop :=
  match op with
  | .move x => see (AS.eval ⟨tm, ob⟩ x) fun v => k v ob
  | .assign x => see (AS.eval ⟨tm, ob⟩ x) fun v => k v ob
  | .pick c a b => match AS.eval ⟨tm, ob⟩ c with
    | .d (.bool t) => (t = true → see (AS.eval ⟨tm, ob⟩ a) fun v => k v ob) ∧ (t = false → see (AS.eval ⟨tm, ob⟩ b) fun v => k v ob)
    | _ => False
  | .indexAddr t x i => match AS.eval ⟨tm, ob⟩ i with
    | .d (.int _ n) => elemW T t (AS.eval ⟨tm, ob⟩ x) n ob fun v => k v ob
    | _ => False
  | .index t x i => match AS.eval ⟨tm, ob⟩ x, AS.eval ⟨tm, ob⟩ i with
    | .d (.str s), .d (.int _ n) => match T t with
      | some ⟨.string, _, _, _⟩ => Side (0 ≤ n ∧ n < s.length) ∧ k (.d (.int .u8 ((s.getD n.toNat 0).toNat : Int))) ob
      | _ => False
    | .agg cs, .d (.int _ n) => match arrT T t with
      | some (len, y) => Side (0 ≤ n ∧ n < len) ∧ okk (partA y cs (n.toNat * y.size)) fun v => see v fun v => k v ob
      | none => False
    | _, _ => False
  | .load t a => match T t with
    | some y => loadW y (AS.eval ⟨tm, ob⟩ a) ob fun v => see v fun v => k v ob
    | none => False
  | .slice t x lo hi mx => match mx, lenA (AS.eval ⟨tm, ob⟩ x) with
    | none, some len => match boundA (AS.eval ⟨tm, ob⟩) 0 lo, boundA (AS.eval ⟨tm, ob⟩) len hi with
      | some l, some h => sliceW T t (AS.eval ⟨tm, ob⟩ x) l h ob fun v => k v ob
      | _, _ => False
    | _, _ => False
  | .store t a x => match T t with
    | some y => storeW y (AS.eval ⟨tm, ob⟩ a) (AS.eval ⟨tm, ob⟩ x) ob fun ob' => k .skip ob'
    | none => False
  | .makeSlice t l c => match elemT T t, AS.eval ⟨tm, ob⟩ l, AS.eval ⟨tm, ob⟩ c with
    | some y, .d (.int .i64 l), .d (.int .i64 c) => okk (allD y.zero) fun z => Side (0 ≤ l ∧ l ≤ c ∧ c * y.bytes ≤ 140737488355328 ∧ c < 9223372036854775808) ∧
        seeL (ob ++ [.arr (List.replicate l.toNat z) y.size 0]) fun ob' => k (.win ob.length 0 l.toNat 0) ob'
    | _, _, _ => False
  | .call c => callW T tbl c tm ob k
  | op => gexec T tbl op tm ob k

def rdst (d : Option Nat) (v : AV) (tm : List (Nat × AV)) : List (Nat × AV) :=
  match d with
  | some t => (t, v) :: tm
  | none => tm

def rnext (d : Option Nat) (v : AV) (tm : List (Nat × AV)) (k : List (Nat × AV) → Prop) : Prop :=
  match d with
  | some t => k ((t, v) :: tm)
  | none => k tm

theorem rnext_eq (d : Option Nat) (v : AV) (tm : List (Nat × AV)) (k : List (Nat × AV) → Prop) : rnext d v tm k = k (rdst d v tm) := by
  cases d <;> rfl

def rrun (T : Nat → Option TY) (tbl : Tbl) (K : AS → Prop) : List ROp → List (Nat × AV) → List AObj → Prop
  | [], tm, ob => K ⟨tm, ob⟩
  | o :: l, tm, ob => match o.g with
    | none => rexec T tbl o.op tm ob fun v ob' => rnext o.dst v tm fun tm' => rrun T tbl K l tm' ob'
    | some (t, want) => match look tm t with
      | .d (.bool b) => match want with
        | true => (b = true → rexec T tbl o.op tm ob fun v ob' => rnext o.dst v tm fun tm' => rrun T tbl K l tm' ob') ∧ (b = false → rnext o.dst .skip tm fun tm' => rrun T tbl K l tm' ob)
        | false => (b = true → rnext o.dst .skip tm fun tm' => rrun T tbl K l tm' ob) ∧ (b = false → rexec T tbl o.op tm ob fun v ob' => rnext o.dst v tm fun tm' => rrun T tbl K l tm' ob')
      | .skip => rnext o.dst .skip tm fun tm' => rrun T tbl K l tm' ob
      | _ => False

section
variable {T : Nat → Option TY} {tbl : Tbl}

theorem gexec_elim (op : Op) (tm : List (Nat × AV)) (ob : List AObj) (k : AV → List AObj → Prop) (h : gexec T tbl op tm ob k) : ∃ r, aExec T tbl op (AS.eval ⟨tm, ob⟩) ob = some r ∧ k r.1 r.2 := by
  unfold gexec at h
  unfold aExec
  split at h
  · rename_i hk
    rw [okk_iff] at h
    obtain ⟨v, hv, hk2⟩ := h
    exact ⟨(v, ob), by rw [if_pos (of_decide_eq_true hk), hv]; rfl, force_elim hk2⟩
  · rename_i hk
    rw [okk_iff] at h
    obtain ⟨r, hr, hk2⟩ := h
    exact ⟨r, by rw [if_neg (of_decide_eq_false hk)]; exact hr, seeL_elim (see_elim hk2)⟩

theorem storeW_elim {t : Nat} {a x : Operand} {e : Env} {y : TY} {objs : List AObj} {k : List AObj → Prop} (ht : T t = some y) (h : storeW y (e a) (e x) objs k) : ∃ ob', aDo T tbl (.store t a x) e objs = some (.skip, ob') ∧ k ob' := by
  unfold storeW at h
  simp only [aDo, ht]
  split at h
  · rename_i id gen row col ha
    rw [okk_iff] at h
    obtain ⟨cs, hcs, h⟩ := h
    simp only [ha, hcs]
    split at h
    · rename_i cells g ho
      split at h
      · rename_i h1 h3
        simp only [ho, h1, h3]
        exact ⟨_, rfl, seeL_elim (seeL_elim h)⟩
      · exact h.elim
    · rename_i rs n g ho
      rw [okk_iff] at h
      obtain ⟨ds, hds, ⟨h1⟩, h2⟩ := h
      simp only [ho, hds]
      exact ⟨_, by rw [if_pos h1], seeL_elim h2⟩
    · exact h.elim
  · exact h.elim

theorem rexec_elim (op : Op) (tm : List (Nat × AV)) (ob : List AObj) (k : AV → List AObj → Prop) (h : rexec T tbl op tm ob k) : ∃ r, aExec T tbl op (AS.eval ⟨tm, ob⟩) ob = some r ∧ k r.1 r.2 := by
  have val : ∀ {op : Op} {v : AV}, opK op ≤ 1 → aVal T tbl op (AS.eval ⟨tm, ob⟩) ob = some v → aExec T tbl op (AS.eval ⟨tm, ob⟩) ob = some (v, ob) := by
    intro op v hk hv
    unfold aExec
    rw [if_pos hk, hv]; rfl
  have dos : ∀ {op : Op} {r : AV × List AObj}, ¬ opK op ≤ 1 → aDo T tbl op (AS.eval ⟨tm, ob⟩) ob = some r → aExec T tbl op (AS.eval ⟨tm, ob⟩) ob = some r := by
    intro op v hk hv
    unfold aExec
    rw [if_neg hk, hv]
  cases op <;> simp only [rexec] at h <;> first | exact gexec_elim _ _ _ _ h | skip
  case move x => exact ⟨_, val (by simp [opK]) rfl, see_elim h⟩
  case assign x => exact ⟨_, val (by simp [opK]) rfl, see_elim h⟩
  case pick c a b =>
    split at h
    · rename_i t hc
      cases t
      · exact ⟨(AS.eval ⟨tm, ob⟩ b, ob), val (by simp [opK]) (by simp [aVal, hc]), see_elim (h.2 rfl)⟩
      · exact ⟨(AS.eval ⟨tm, ob⟩ a, ob), val (by simp [opK]) (by simp [aVal, hc]), see_elim (h.1 rfl)⟩
    · exact h.elim
  case indexAddr t x i =>
    split at h
    · rename_i q n hi
      obtain ⟨r, hr, hk⟩ := elemW_elim h
      exact ⟨_, val (by simp [opK]) (by simp only [aVal, hi]; exact hr), hk⟩
    · exact h.elim
  case index t x i =>
    split at h
    · rename_i s q n hx hi
      split at h
      · rename_i ht
        obtain ⟨⟨h1⟩, h2⟩ := h
        exact ⟨_, val (by simp [opK]) (by simp only [aVal, hx, hi, ht]; rw [if_pos h1]), h2⟩
      · exact h.elim
    · rename_i cs q n hx hi
      split at h
      · rename_i len y ht
        obtain ⟨⟨h1⟩, h2⟩ := h
        rw [okk_iff] at h2
        obtain ⟨v, hv, hk⟩ := h2
        exact ⟨_, val (by simp [opK]) (by simp only [aVal, hx, hi, ht]; rw [if_pos h1]; exact hv), see_elim hk⟩
      · exact h.elim
    · exact h.elim
  case load t a =>
    split at h
    · rename_i y ht
      obtain ⟨r, hr, hk⟩ := loadW_elim h
      exact ⟨_, val (by simp [opK]) (by simp only [aVal, ht]; exact hr), see_elim hk⟩
    · exact h.elim
  case slice t x lo hi mx =>
    split at h
    · rename_i len hlen
      split at h
      · rename_i l hh hl hhi
        obtain ⟨r, hr, hk⟩ := sliceW_elim h
        exact ⟨_, val (by simp [opK]) (by simp only [aVal, hlen, hl, hhi]; exact hr), hk⟩
      · exact h.elim
    · exact h.elim
  case store t a x =>
    split at h
    · rename_i y ht
      obtain ⟨ob', h1, h2⟩ := storeW_elim (tbl := tbl) ht h
      exact ⟨_, dos (by simp [opK]) h1, h2⟩
    · exact h.elim
  case makeSlice t l c =>
    split at h
    · rename_i y l' c' hy hl hc
      rw [okk_iff] at h
      obtain ⟨z, hz, ⟨h1⟩, h2⟩ := h
      exact ⟨(_, _), dos (by simp [opK]) (by simp only [aDo, hy, hl, hc, hz]; rw [if_pos h1]), seeL_elim h2⟩
    · exact h.elim
  case call c =>
    unfold callW at h
    split at h
    · rename_i hcal
      have hk : ¬ opK (.call c) ≤ 1 := by
        obtain ⟨ca, ar, at'⟩ := c
        simp only at hcal
        subst hcal
        simp [opK]
      split at h
      · rename_i s x t u hargs htys
        split at h
        · rename_i y R hy hR hu
          obtain ⟨r, hr, hk2⟩ := appendW_elim h
          exact ⟨r, dos hk (by simp only [aDo, hcal, hargs, htys, hy, hR, hu]; exact hr), hk2⟩
        · exact h.elim
      · exact h.elim
    · rename_i hcal
      have hk : ¬ opK (.call c) ≤ 1 := by
        obtain ⟨ca, ar, at'⟩ := c
        simp only at hcal
        subst hcal
        simp [opK]
      split at h
      · rename_i s x t u hargs htys
        split at h
        · rename_i y R id off len gen hy hR hs
          split at h
          · rename_i rs n' g ho
            obtain ⟨⟨h1⟩, h2⟩ := h
            exact ⟨(_, _), dos hk (by simp only [aDo, hcal, hargs, htys, hy, hR, hs, ho]; rw [if_pos h1]), seeL_elim h2⟩
          · exact h.elim
        · exact h.elim
      · exact h.elim
    · exact gexec_elim _ _ _ _ h

theorem puto_rdst (tm : List (Nat × AV)) (ob : List AObj) (d : Option Nat) (r : AV × List AObj) : AS.res ⟨tm, ob⟩ d r = ⟨rdst d r.1 tm, r.2⟩ := by
  cases d <;> rfl

theorem rrun_steps {ops : Array Oper} {K : AS → Prop} : ∀ (l : List Oper) (tm : List (Nat × AV)) (ob : List AObj), (∀ o ∈ l, (match o.guard with | none => true | some (j, _) => ((ops[j]?).bind (·.dst)).isSome) = true) →
    rrun T tbl K (l.map (stripO ops)) tm ob → ∃ τ, asteps T tbl ops l ⟨tm, ob⟩ = some τ ∧ K τ := by
  intro l
  induction l with
  | nil => intro tm ob _ h; exact ⟨_, rfl, h⟩
  | cons o l ih =>
    intro tm ob hg h
    have hgo := hg o (List.mem_cons_self ..)
    have ih' := fun tm ob => ih tm ob fun x hx => hg x (List.mem_cons_of_mem _ hx)
    simp only [List.map_cons, rrun, stripO, rnext_eq] at h
    have next : ∀ r, astepR T tbl ops o ⟨tm, ob⟩ = some r → rrun T tbl K (l.map (stripO ops)) (rdst o.dst r.1 tm) r.2 → ∃ τ, asteps T tbl ops (o :: l) ⟨tm, ob⟩ = some τ ∧ K τ := by
      intro r hr h1
      obtain ⟨τ, h2, h3⟩ := ih' _ _ h1
      exact ⟨τ, by simp only [asteps, astep, hr, Option.map_some, Option.bind_some, puto_rdst]; exact h2, h3⟩
    cases hgd : o.guard with
    | none =>
      rw [hgd] at h
      simp only [stripG] at h
      obtain ⟨r, h1, h2⟩ := rexec_elim _ _ _ _ h
      exact next r (by simp only [astepR, hgd]; exact h1) h2
    | some p =>
      obtain ⟨j, want⟩ := p
      rw [hgd] at h hgo
      simp only [stripG] at h
      cases hd : (ops[j]?).bind (·.dst) with
      | none => simp [hd] at hgo
      | some t =>
        rw [hd] at h
        simp only at h
        have hy : yieldOf ops ⟨tm, ob⟩ j = look tm t := by simp [yieldOf, hd, AS.get]
        split at h
        · rename_i b hb
          have yes : (b = want) → rexec T tbl o.op tm ob (fun v ob' => rrun T tbl K (l.map (stripO ops)) (rdst o.dst v tm) ob') → ∃ τ, asteps T tbl ops (o :: l) ⟨tm, ob⟩ = some τ ∧ K τ := by
            intro hbw h
            obtain ⟨r, h1, h2⟩ := rexec_elim _ _ _ _ h
            exact next r (by simp only [astepR, hgd, hy, hb, if_pos hbw]; exact h1) h2
          have no : ¬ (b = want) → rrun T tbl K (l.map (stripO ops)) (rdst o.dst .skip tm) ob → ∃ τ, asteps T tbl ops (o :: l) ⟨tm, ob⟩ = some τ ∧ K τ := by
            intro hbw h
            exact next (.skip, ob) (by simp only [astepR, hgd, hy, hb, if_neg hbw]) h
          cases want <;> cases b
          · exact yes rfl (h.2 rfl)
          · exact no (by decide) (h.1 rfl)
          · exact no (by decide) (h.2 rfl)
          · exact yes rfl (h.1 rfl)
        · rename_i hb
          exact next (.skip, ob) (by simp only [astepR, hgd, hy, hb]) h
        · exact h.elim
end

/-- One state says no more than another one. -/
def Weak (σ τ : AS) : Prop := ∀ F ρ a w, Rel F ρ σ a w → ∃ ρ', Rel F ρ' τ a w

theorem Weak.refl (σ : AS) : Weak σ σ := fun F ρ a w h => ⟨ρ, h⟩

/-- Some slots are forgotten. -/
theorem Weak.slots {σ : AS} (l : List (Nat × AV)) (h : ∀ t, look l t = .undef ∨ look l t = σ.get t) : Weak σ ⟨l, σ.objs⟩ := by
  intro F ρ a w hr
  refine ⟨ρ, hr.nt, hr.ds, fun t => ?_, hr.hp⟩
  show RelV w _ ρ σ.objs (look l t) _
  rcases h t with h | h
  · rw [h]; exact .undef _
  · rw [h]; exact hr.tm t

def blockK (id : Nat) (Q : Exit → AS → Prop) : Exit → AS → Prop
  | .exit id', σ => if id' = id then Q .normal σ else Q (.exit id') σ
  | e, σ => Q e σ

def thenK (next : AS → Prop) (Q : Exit → AS → Prop) : Exit → AS → Prop
  | .normal, σ => next σ
  | e, σ => Q e σ

/-- A loop: what holds at its head, with a number that falls. -/
def Loops (body : (Exit → AS → Prop) → AS → Prop) (Q : Exit → AS → Prop) (σ : AS) : Prop :=
  ∃ (I : Nat → AS → Prop) (k : Nat), I k σ ∧ ∀ k σ, I k σ → body (thenK (fun σ' => ∃ m τ, m < k ∧ Weak σ' τ ∧ I m τ) Q) σ

def rwp (T : Nat → Option TY) (tbl : Tbl) : RC → (Exit → AS → Prop) → AS → Prop
  | .skip, Q, σ => Q .normal σ
  | .reg l, Q, ⟨tm, ob⟩ => rrun T tbl (Q .normal) l tm ob
  | .seq a b, Q, σ => rwp T tbl a (thenK (rwp T tbl b Q) Q) σ
  | .cond c t e, Q, σ => match σ.eval c with
    | .d (.bool b) => (b = true → rwp T tbl t Q σ) ∧ (b = false → rwp T tbl e Q σ)
    | _ => False
  | .block id c, Q, σ => rwp T tbl c (blockK id Q) σ
  | .loop c, Q, σ => Loops (rwp T tbl c) Q σ
  | .exit id, Q, σ => Q (.exit id) σ
  | .goto l, Q, σ => Q (.goto l) σ
  | .ret, Q, σ => Q .ret σ
  | .bad, _, _ => False

/-- What a state says of the world behind some code. -/
def postOf (F : Fr) (Q : Exit → AS → Prop) (e : Exit) (a : Act) (w : World) : Prop :=
  match e with
  | .panic _ => False
  | .outgrown => False
  | e => ∃ σ ρ, Q e σ ∧ Rel F ρ σ a w

theorem postOf_mk {F : Fr} {Q : Exit → AS → Prop} {e : Exit} {a : Act} {w : World} {σ : AS} {ρ : Nat → Option (Nat × Nat)} (hp : ∀ c, e ≠ .panic c) (ho : e ≠ .outgrown) (h : Q e σ) (hr : Rel F ρ σ a w) : postOf F Q e a w := by
  cases e <;> first | exact ⟨σ, ρ, h, hr⟩ | exact absurd rfl (hp _) | exact absurd rfl ho

theorem least {p : Nat → Prop} (h : ∃ m, p m) : ∃ m, p m ∧ ∀ k, p k → m ≤ k := by
  obtain ⟨m, hm⟩ := h
  induction m using Nat.strongRecOn with
  | _ m ih =>
    by_cases hex : ∃ k, k < m ∧ p k
    · obtain ⟨k, hk, hp⟩ := hex
      exact ih k hk hp
    · exact ⟨m, hm, fun k hk => Nat.le_of_not_lt fun hlt => hex ⟨k, hlt, hk⟩⟩

section
variable {P : Program} {T : Nat → Option TY} {tbl : Tbl} (hT : TOk P T) (ht : TblOk P tbl) {Fe : Fence} {n : Nat} (hFe : Wide Fe) (hmix : P.follows .mixedOrders = true)
include hT ht hFe hmix

theorem rwp_sound {F : Fr} : ∀ (c : Code) (Q : Exit → AS → Prop) (σ : AS) (ρ : Nat → Option (Nat × Nat)) (a : Act) (w : World), codeOk F.nt c = true → rwp T tbl (strip c) Q σ → Rel F ρ σ a w →
    c.wpIn Fe n P (postOf F Q) a w := by
  intro c
  induction c with
  | skip => intro Q σ ρ a w _ h hr; exact wpIn_skip ⟨σ, ρ, h, hr⟩
  | label l => intro Q σ ρ a w _ h hr; exact wpIn_label ⟨σ, ρ, h, hr⟩
  | exit id => intro Q σ ρ a w _ h hr; exact wpIn_exit ⟨σ, ρ, h, hr⟩
  | goto l => intro Q σ ρ a w _ h hr; exact wpIn_goto ⟨σ, ρ, h, hr⟩
  | ret => intro Q σ ρ a w _ h hr; exact wpIn_ret ⟨σ, ρ, h, hr⟩
  | rangeFunc f ps as b _ _ => intro Q σ ρ a w _ h hr; exact h.elim
  | scope b _ => intro Q σ ρ a w _ h hr; exact h.elim
  | refuse s => intro Q σ ρ a w _ h hr; exact h.elim
  | region id ops draw =>
    intro Q σ ρ a w hok h hr
    simp only [codeOk, Bool.and_eq_true, List.all_eq_true] at hok
    obtain ⟨hok1, hok2⟩ := hok
    obtain ⟨τ, hst, hK⟩ := rrun_steps ops.toList σ.tmps σ.objs (fun o ho => (hok1 o ho).2) h
    have hdst : ∀ (i : Nat) (o : Oper), ops[i]? = some o → ∀ t, o.dst = some t → t < F.nt := by
      intro i o ho t htt
      have := (hok1 o (by simpa using Array.mem_of_getElem? ho)).1
      rw [htt] at this
      simpa using this
    cases draw with
    | false =>
      refine wpIn_region ?_
      have key : ∀ (l : List Oper) (k : Nat), (∀ j, l[j]? = ops[k + j]?) → ∀ (σ : AS) (ρ : Nat → Option (Nat × Nat)) (a : Act) (w : World), asteps T tbl ops l σ = some τ → Rel F ρ σ a w →
          wpOpsIn Fe n P ops (postOf F Q) (List.range' k l.length) a w := by
        intro l
        induction l with
        | nil => intro k _ σ ρ a w hs hr; cases hs; exact ⟨τ, ρ, hK, hr⟩
        | cons o l ih =>
          intro k hl σ ρ a w hs hr
          have h0 : ops[k]? = some o := by simpa using (hl 0).symm
          simp only [asteps] at hs
          cases h1 : astep T tbl ops o σ with
          | none => rw [h1] at hs; cases hs
          | some σ1 =>
            rw [h1] at hs
            simp only [List.length_cons, List.range'_succ]
            rw [wpOpsIn_cons]
            exact astep_ok hT ht hFe hr h0 (hdst k o h0) h1 _ _ fun ρ' a' w' hr' =>
              ih (k + 1) (fun j => by have := hl (j + 1); simpa [Nat.add_assoc, Nat.add_comm 1 j] using this) σ1 ρ' a' w' hs hr'
      have := key ops.toList 0 (by simp) σ ρ a w hst hr
      rw [List.range_eq_range', ← Array.length_toList]
      exact this
    | true =>
      refine wpIn_region_any hmix ?_
      have hreg : regOk ops = true := by simpa using hok2
      have hr' : Rel F ρ σ a { w with drawn := w.drawn + 1 } := hr.world ⟨rfl, rfl, rfl, Nat.le_refl _, fun _ _ _ => rfl, fun b c e f h => ⟨c, f, h, rfl⟩⟩
      have hleft : left ops (Array.replicate ops.size false) = ops.toList := by
        unfold left
        have : ∀ i ∈ List.range ops.size, (if (Array.replicate ops.size false).getD i true = true then none else ops[i]?) = ops[i]? := by
          intro i hi
          have := List.mem_range.1 hi
          simp [Array.getD_eq_getD_getElem?, this]
        rw [filterMap_congr' _ this]
        apply List.ext_getElem?
        intro i
        have key : ∀ (k m : Nat), k + m = ops.size → (List.range' k m).filterMap (fun i => ops[i]?) = ops.toList.drop k := by
          intro k m
          induction m generalizing k with
          | zero => intro h; simp; omega
          | succ m ih =>
            intro h
            have hk : k < ops.toList.length := by simp; omega
            rw [List.range'_succ, List.filterMap_cons, List.drop_eq_getElem_cons hk]
            have : ops[k]? = some ops.toList[k] := by simp [show k < ops.size by omega]
            rw [this]
            simp only [ih (k + 1) (by omega)]
        rw [List.range_eq_range', key 0 ops.size (by omega), List.drop_zero]
      refine any_ok hT ht hFe hreg hdst (Q := postOf F Q) (τ := τ) (fun ρ' a' w' h => ⟨τ, ρ', hK, h⟩) ops.size _ σ ρ a _ (by simp) ?_ ?_ ?_ hr'
      · intro i j hi hl _
        simp [Array.getD_eq_getD_getElem?, hi] at hl
      · rw [hleft]; simp
      · rw [hleft]; exact ⟨τ, hst, .refl τ⟩
  | seq x y ihx ihy =>
    intro Q σ ρ a w hok h hr
    simp only [codeOk, Bool.and_eq_true] at hok
    refine wpIn_seq (wpIn_mono (ihx _ σ ρ a w hok.1 h hr) ?_)
    intro e a' w' hp
    cases e <;> first | exact hp | skip
    obtain ⟨σ', ρ', hq, hr'⟩ := hp
    exact ihy Q σ' ρ' a' w' hok.2 hq hr'
  | cond c x y ihx ihy =>
    intro Q σ ρ a w hok h hr
    simp only [codeOk, Bool.and_eq_true] at hok
    simp only [strip, rwp] at h
    split at h
    · rename_i b hc
      have hv := eval_ok hr c
      rw [hc] at hv
      refine wpIn_cond (relD_bool hv) ?_
      cases b
      · exact ihy Q σ ρ a w hok.2 (h.2 rfl) hr
      · exact ihx Q σ ρ a w hok.1 (h.1 rfl) hr
    · exact h.elim
  | block id c ih =>
    intro Q σ ρ a w hok h hr
    refine wpIn_block (wpIn_mono (ih _ σ ρ a w hok h hr) ?_)
    intro e a' w' hp
    cases e with
    | exit id' =>
      obtain ⟨σ', ρ', hq, hr'⟩ := hp
      simp only [blockK] at hq
      simp only [Exit.inBlock]
      split
      · rename_i h1; rw [if_pos h1] at hq; exact ⟨σ', ρ', hq, hr'⟩
      · rename_i h1; rw [if_neg h1] at hq; exact ⟨σ', ρ', hq, hr'⟩
    | _ => exact hp
  | loop c ih =>
    intro Q σ ρ a w hok h hr
    obtain ⟨I, k, hI, hround⟩ := h
    let J : Act → World → Nat → Prop := fun a w m => ∃ σ ρ, I m σ ∧ Rel F ρ σ a w
    let μ : Act → World → Nat := fun a w => open Classical in if h : ∃ m, J a w m then Classical.choose (least h) else 0
    have hμ : ∀ a w m, J a w m → J a w (μ a w) ∧ μ a w ≤ m := by
      intro a w m hm
      have hex : ∃ m, J a w m := ⟨m, hm⟩
      simp only [μ, dif_pos hex]
      obtain ⟨h1, h2⟩ := Classical.choose_spec (least hex)
      exact ⟨h1, h2 m hm⟩
    refine wpIn_loop (fun a w => ∃ m, J a w m) μ ⟨k, σ, ρ, hI, hr⟩ ?_
    rintro a w ⟨m, hm⟩
    obtain ⟨⟨σ1, ρ1, hI1, hr1⟩, _⟩ := hμ a w m hm
    refine wpIn_mono (ih _ σ1 ρ1 a w hok (hround _ _ hI1) hr1) ?_
    intro e a' w' hp
    cases e <;> first | exact hp | skip
    obtain ⟨σ', ρ', ⟨m', τ, hlt, hweak, hIm⟩, hr'⟩ := hp
    obtain ⟨ρ2, hr2⟩ := hweak _ _ _ _ hr'
    have hJ : J a' w' m' := ⟨τ, ρ2, hIm, hr2⟩
    exact ⟨⟨m', hJ⟩, Nat.lt_of_le_of_lt (hμ a' w' m' hJ).2 hlt⟩
end

end Go.AI
