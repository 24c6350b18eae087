/- What operations that change no memory make of abstract values, and that they do. -/
import Derived.Test.YtjdjfchhbocncaaGreatAiA
namespace Go.AI

def ofVal : Value → AV
  | .bool b => .d (.bool b)
  | .int k n => .d (.int k n)
  | .string s => .d (.str s.data.toList)
  | .pointer none => .d .nilp
  | .nilFunc => .d .nilfn
  | .nilIface => .d .nilif
  | .map none => .d .nilmap
  | .slice none 0 0 => .nils
  | _ => .undef

def AS.eval (σ : AS) : Operand → AV
  | .tmp t => σ.get t
  | .const v => ofVal v
  | .global _ => .undef
  | .func f => .fn (.func f) []

/-- A type, as far as it matters here. -/
structure TY where
  desc : TypeDesc
  size : Nat
  bytes : Nat
  zero : List AV

/-- The cells of a zero value. -/
def zeroOk (l : List AV) (v : Value) : Prop := l.length = v.cells.size ∧ ∀ i, i < l.length → ∀ w Wr ρ objs, RelV w Wr ρ objs (l.getD i .undef) (v.cells.getD i undef)

/-- Types whose values have cells of their own, and such values. -/
def aggD : TypeDesc → Bool
  | .struct _ => true
  | .array _ _ => true
  | _ => false
def aggV : Value → Bool
  | .agg _ => true
  | _ => false

theorem cells_one {z : Value} (h : aggV z = false) : z.cells = #[z] := by
  cases z <;> first | rfl | cases h

def TOk (P : Program) (T : Nat → Option TY) : Prop :=
  ∀ t y, T t = some y → P.underlying t = some y.desc ∧ ∃ i, P.info? t = some i ∧ i.size = y.size ∧ i.bytes = y.bytes ∧ ∃ z, i.zero = some z ∧ zeroOk y.zero z ∧ y.zero.length = y.size ∧ aggV z = aggD y.desc

section
variable {P : Program} {T : Nat → Option TY} (hT : TOk P T)
include hT
theorem TOk.under {t : TypeId} {y : TY} (h : T t = some y) : P.underlying t = some y.desc := (hT t y h).1
theorem TOk.sizeOf {t : TypeId} {y : TY} (h : T t = some y) (w : World) : (sizeOf t).run P w = .ok y.size w := by
  obtain ⟨_, i, hi, hs, _⟩ := hT t y h
  simp [Go.sizeOf, typeInfo, hi, hs]
theorem TOk.info {t : TypeId} {y : TY} (h : T t = some y) (w : World) : ∃ i, (typeInfo t).run P w = .ok i w ∧ i.bytes = y.bytes := by
  obtain ⟨_, i, hi, _, hb, _⟩ := hT t y h
  exact ⟨i, by simp [typeInfo, hi], hb⟩
theorem TOk.zeroRun {t : TypeId} {y : TY} (h : T t = some y) (w : World) : ∃ z, (zeroValue t).run P w = .ok z w ∧ zeroOk y.zero z ∧ z.cells.size = y.size := by
  obtain ⟨_, i, hi, _, _, z, hz, ho, hl, _⟩ := hT t y h
  exact ⟨z, by simp [zeroValue, typeInfo, hi, hz], ho, by rw [← ho.1, hl]⟩
theorem TOk.zeroOne {t : TypeId} {y : TY} (h : T t = some y) {x : AV} (hy : y.zero = [x]) (ha : aggD y.desc = false) (w : World) : ∃ z, (zeroValue t).run P w = .ok z w ∧ ∀ w Wr ρ objs, RelV w Wr ρ objs x z := by
  obtain ⟨_, i, hi, _, _, z, hz, ho, hl, hg⟩ := hT t y h
  refine ⟨z, by simp [zeroValue, typeInfo, hi, hz], fun w' Wr ρ objs => ?_⟩
  have h1 := ho.2 0 (by rw [hy]; exact Nat.zero_lt_one) w' Wr ρ objs
  rw [hy, cells_one (hg.trans ha)] at h1
  exact h1
end

theorem ofVal_ok (w : World) (Wr : Nat → Prop) (ρ : Nat → Option (Nat × Nat)) (objs : List AObj) (v : Value) : RelV w Wr ρ objs (ofVal v) v := by
  unfold ofVal
  split
  · exact .d _ _ (.bool _)
  · exact .d _ _ (.int _ _)
  · exact .d _ _ (.str _ _ rfl)
  · exact .d _ _ .nilp
  · exact .d _ _ .nilfn
  · exact .d _ _ .nilif
  · exact .d _ _ .nilmap
  · exact .nils
  · exact .undef _

theorem eval_ok {F : Fr} {ρ : Nat → Option (Nat × Nat)} {σ : AS} {a : Act} {w : World} (h : Rel F ρ σ a w) (x : Operand) :
    RelV w (Wrt F ρ σ.objs) ρ σ.objs (σ.eval x) (a.eval x) := by
  cases x with
  | tmp t => exact h.tm t
  | const v => exact ofVal_ok _ _ _ _ v
  | global g => exact .undef _
  | func f => exact .fn (.func f) [] #[] rfl (fun i hi => absurd hi (Nat.not_lt_zero i))

/-- Two operands. -/
def aBin (op : BinOp) (x y : AV) : Option AV :=
  match x, y with
  | .d (.int k a), .d (.int k' b) =>
    match op with
    | .shl => if b < 0 then none else some (.d (.int k (k.wrap (a * 2 ^ (min b.toNat k.bits)))))
    | .shr => if b < 0 then none else some (.d (.int k (a.fdiv (2 ^ (min b.toNat k.bits)))))
    | .add => if k = k' then some (.d (.int k (k.wrap (a + b)))) else none
    | .sub => if k = k' then some (.d (.int k (k.wrap (a - b)))) else none
    | .mul => if k = k' then some (.d (.int k (k.wrap (a * b)))) else none
    | .quo => if k = k' ∧ ¬ b = 0 then some (.d (.int k (k.wrap (a.tdiv b)))) else none
    | .rem => if k = k' ∧ ¬ b = 0 then some (.d (.int k (a.tmod b))) else none
    | .and => if k = k' then some (.d (.int k (k.wrap (BitVec.ofInt k.bits a &&& BitVec.ofInt k.bits b).toNat))) else none
    | .or => if k = k' then some (.d (.int k (k.wrap (BitVec.ofInt k.bits a ||| BitVec.ofInt k.bits b).toNat))) else none
    | .xor => if k = k' then some (.d (.int k (k.wrap (BitVec.ofInt k.bits a ^^^ BitVec.ofInt k.bits b).toNat))) else none
    | .andNot => if k = k' then some (.d (.int k (k.wrap (BitVec.ofInt k.bits a &&& ~~~BitVec.ofInt k.bits b).toNat))) else none
    | .eql => if k = k' then some (.d (.bool (a == b))) else none
    | .neq => if k = k' then some (.d (.bool (!(a == b)))) else none
    | .lss => if k = k' then some (.d (.bool (decide (a < b)))) else none
    | .leq => if k = k' then some (.d (.bool (decide (a ≤ b)))) else none
    | .gtr => if k = k' then some (.d (.bool (decide (b < a)))) else none
    | .geq => if k = k' then some (.d (.bool (decide (b ≤ a)))) else none
  | .d (.str a), .d (.str b) =>
    match op with
    | .add => if a.length + b.length < 2 ^ 63 then some (.d (.str (a ++ b))) else none
    | .eql => some (.d (.bool (a == b)))
    | .neq => some (.d (.bool (!(a == b))))
    | .lss => some (.d (.bool (Op.bytesLess a b)))
    | .leq => some (.d (.bool (Op.bytesLess a b || (a == b))))
    | .gtr => some (.d (.bool (!(Op.bytesLess a b || (a == b)))))
    | .geq => some (.d (.bool (!(Op.bytesLess a b))))
    | _ => none
  | _, _ => none

def aUn (op : UnOp) (x : AV) : Option AV :=
  match op, x with
  | .not, .d (.bool b) => some (.d (.bool (!b)))
  | .neg, .d (.int k n) => some (.d (.int k (k.wrap (0 - n))))
  | .xor, .d (.int k n) => some (.d (.int k (k.wrap (BitVec.ofInt k.bits (if k.signed then -1 else k.max) ^^^ BitVec.ofInt k.bits n).toNat)))
  | _, _ => none


theorem relD_int {w : World} {Wr : Nat → Prop} {ρ : Nat → Option (Nat × Nat)} {objs : List AObj} {k : IntKind} {n : Int} {v : Value} (h : RelV w Wr ρ objs (.d (.int k n)) v) : v = .int k n := by
  cases h with | d _ _ h => cases h; rfl
theorem relD_bool {w : World} {Wr : Nat → Prop} {ρ : Nat → Option (Nat × Nat)} {objs : List AObj} {b : Bool} {v : Value} (h : RelV w Wr ρ objs (.d (.bool b)) v) : v = .bool b := by
  cases h with | d _ _ h => cases h; rfl
theorem relD_nilp {w : World} {Wr : Nat → Prop} {ρ : Nat → Option (Nat × Nat)} {objs : List AObj} {v : Value} (h : RelV w Wr ρ objs (.d .nilp) v) : v = .pointer none := by
  cases h with | d _ _ h => cases h; rfl
theorem relV_ptr {w : World} {Wr : Nat → Prop} {ρ : Nat → Option (Nat × Nat)} {objs : List AObj} {id gen row col : Nat} {v : Value} (h : RelV w Wr ρ objs (.ptr id gen row col) v) : ∃ a, v = .pointer (some a) := by
  cases h with | ptr _ _ _ _ _ o ho hg hs h => exact hs
theorem relD_str {w : World} {Wr : Nat → Prop} {ρ : Nat → Option (Nat × Nat)} {objs : List AObj} {l : List UInt8} {v : Value} (h : RelV w Wr ρ objs (.d (.str l)) v) : ∃ s : ByteArray, v = .string s ∧ s.data.toList = l := by
  cases h with | d _ _ h => cases h with | str _ s h => exact ⟨s, rfl, h⟩

theorem eqGuard_int (P : Program) (op : BinOp) (t : TypeId) (x y : Operand) (k k' : IntKind) (a b : Int) (w : World) : (eqGuard op t x y (.int k a) (.int k' b)).run P w = .ok () w := by
  unfold eqGuard; split <;> simp
theorem eqGuard_str (P : Program) (op : BinOp) (t : TypeId) (x y : Operand) (a b : ByteArray) (w : World) : (eqGuard op t x y (.string a) (.string b)).run P w = .ok () w := by
  unfold eqGuard; split <;> simp
theorem eqGuard_bool (P : Program) (op : BinOp) (t : TypeId) (x y : Operand) (a b : Bool) (w : World) : (eqGuard op t x y (.bool a) (.bool b)).run P w = .ok () w := by
  unfold eqGuard; split <;> simp

theorem bytesToList (s : ByteArray) : s.toList = s.data.toList := by
  have key : ∀ (n i : Nat) (acc : List UInt8), s.size - i = n → ByteArray.toList.loop s i acc = acc.reverse ++ s.data.toList.drop i := by
    intro n
    induction n with
    | zero =>
      intro i acc h
      unfold ByteArray.toList.loop
      have h1 : ¬ i < s.size := by omega
      have h2 : s.data.toList.length ≤ i := by have : s.data.toList.length = s.size := rfl; omega
      simp [h1, List.drop_eq_nil_of_le h2]
    | succ n ih =>
      intro i acc h
      unfold ByteArray.toList.loop
      have h1 : i < s.size := by omega
      have h2 : i < s.data.toList.length := by have : s.data.toList.length = s.size := rfl; omega
      rw [if_pos h1, ih (i + 1) _ (by omega), List.drop_eq_getElem_cons h2]
      have h3 : s.get! i = s.data.toList[i] := by
        show s.data[i]! = _
        have h4 : i < s.data.size := h1
        rw [getElem!_pos s.data i h4]
        rfl
      simp [h3]
  have := key s.size 0 [] (by omega)
  simpa [ByteArray.toList] using this

theorem ite_some {α : Type} {c : Prop} [Decidable c] {x r : α} (h : (if c then some x else none) = some r) : c ∧ x = r := by
  split at h
  · exact ⟨by assumption, Option.some.inj h⟩
  · cases h
theorem ite_none {α : Type} {c : Prop} [Decidable c] {x r : α} (h : (if c then none else some x) = some r) : ¬ c ∧ x = r := by
  split at h
  · cases h
  · exact ⟨by assumption, Option.some.inj h⟩

theorem aBin_ok {P : Program} {op : BinOp} {x y : AV} {r : AV} (t _ty : TypeId) (ox oy : Operand) {w : World} {Wr : Nat → Prop} {ρ : Nat → Option (Nat × Nat)} {objs : List AObj} {cx cy : Value}
    (hx : RelV w Wr ρ objs x cx) (hy : RelV w Wr ρ objs y cy) (h : aBin op x y = some r) :
    ∃ v, ((do eqGuard op t ox oy cx cy; binOp op t cx cy : Sem Value)).run P w = .ok v w ∧ RelV w Wr ρ objs r v := by
  unfold aBin at h
  split at h
  · rename_i k a k' b
    obtain rfl := relD_int hx
    obtain rfl := relD_int hy
    have hg := eqGuard_int P op t ox oy k k' a b w
    cases op <;> simp only at h
    case shl =>
      obtain ⟨hk, rfl⟩ := ite_none h
      exact ⟨_, by simp [hg, binOp, Op.shift, hk], .d _ _ (.int _ _)⟩
    case shr =>
      obtain ⟨hk, rfl⟩ := ite_none h
      exact ⟨_, by simp [hg, binOp, Op.shift, hk], .d _ _ (.int _ _)⟩
    all_goals obtain ⟨hk, rfl⟩ := ite_some h
    case quo =>
      obtain ⟨rfl, hb⟩ := hk
      exact ⟨_, by simp [hg, binOp, Op.intDiv, hb], .d _ _ (.int _ _)⟩
    case rem =>
      obtain ⟨rfl, hb⟩ := hk
      exact ⟨_, by simp [hg, binOp, Op.intDiv, hb], .d _ _ (.int _ _)⟩
    all_goals subst hk
    case add => exact ⟨_, by simp [hg, binOp, Op.intArith], .d _ _ (.int _ _)⟩
    case sub => exact ⟨_, by simp [hg, binOp, Op.intArith], .d _ _ (.int _ _)⟩
    case mul => exact ⟨_, by simp [hg, binOp, Op.intArith], .d _ _ (.int _ _)⟩
    case and => exact ⟨_, by simp [hg, binOp, Op.intBits], .d _ _ (.int _ _)⟩
    case or => exact ⟨_, by simp [hg, binOp, Op.intBits], .d _ _ (.int _ _)⟩
    case xor => exact ⟨_, by simp [hg, binOp, Op.intBits], .d _ _ (.int _ _)⟩
    case andNot => exact ⟨_, by simp [hg, binOp, Op.intBits], .d _ _ (.int _ _)⟩
    all_goals exact ⟨_, by simp [hg, binOp, Op.intCmp]; try rfl, .d _ _ (.bool _)⟩
  · rename_i la lb
    obtain ⟨a, rfl, ha⟩ := relD_str hx
    obtain ⟨b, rfl, hb⟩ := relD_str hy
    have hg := eqGuard_str P op t ox oy a b w
    cases op <;> simp only at h
    case add =>
      obtain ⟨hlt, rfl⟩ := ite_some h
      have h1 : a.size = la.length := by rw [← ha]; rfl
      have h2 : b.size = lb.length := by rw [← hb]; rfl
      refine ⟨.string (a ++ b), ?_, .d _ _ (.str _ (a ++ b) (by rw [← ha, ← hb]; simp))⟩
      have h4 : IntKind.i64.max = 9223372036854775807 := by decide
      have h3 : ¬ (IntKind.i64.max < (a.size : Int) + b.size) := by
        rw [h4, h1, h2]; omega
      simp only [binOp, Op.stringOp, gt_iff_lt, Int.natCast_add, if_neg h3]
      simp [hg]
    case quo => cases h
    case rem => cases h
    case and => cases h
    case or => cases h
    case xor => cases h
    case andNot => cases h
    case sub => cases h
    case mul => cases h
    case shl => cases h
    case shr => cases h
    all_goals
      cases h
      subst ha
      subst hb
      exact ⟨_, by simp [hg, binOp, Op.stringOp, bytesToList]; try rfl, .d _ _ (.bool _)⟩
  · cases h

theorem aUn_ok {P : Program} {op : UnOp} {x r : AV} {w : World} {Wr : Nat → Prop} {ρ : Nat → Option (Nat × Nat)} {objs : List AObj} {cx : Value}
    (hx : RelV w Wr ρ objs x cx) (h : aUn op x = some r) : ∃ v, (Op.unary op cx).run P w = .ok v w ∧ RelV w Wr ρ objs r v := by
  unfold aUn at h
  split at h
  · obtain rfl := relD_bool hx
    cases h
    exact ⟨_, by simp [Op.unary], .d _ _ (.bool _)⟩
  · obtain rfl := relD_int hx
    cases h
    exact ⟨_, by simp [Op.unary, Op.intArith], .d _ _ (.int _ _)⟩
  · obtain rfl := relD_int hx
    cases h
    exact ⟨_, by simp [Op.unary, Op.intBits], .d _ _ (.int _ _)⟩
  · cases h

/-- Two bools that are held against each other. -/
def aBoolEq (T : Nat → Option TY) (t : Nat) (op : BinOp) (a b : Bool) : Option AV :=
  match T t with
  | some ⟨.bool, _, _, _⟩ => match op with
    | .eql => some (.d (.bool (a == b)))
    | .neq => some (.d (.bool (!(a == b))))
    | _ => none
  | _ => none

theorem equalIn_bool {P : Program} {t : TypeId} (hu : P.underlying t = some .bool) {a b : Bool} (d : Nat) (w : World) : (Op.equalIn (d + 1) t (.bool a) (.bool b)).run P w = .ok (a == b) w := by
  simp [Op.equalIn, run_underlying hu]

theorem aBoolEq_ok {P : Program} {T : Nat → Option TY} (hT : TOk P T) {op : BinOp} {r : AV} (t : TypeId) (ox oy : Operand) {w : World} {Wr : Nat → Prop} {ρ : Nat → Option (Nat × Nat)} {objs : List AObj} {a b : Bool}
    (h : aBoolEq T t op a b = some r) :
    ∃ v, ((do eqGuard op t ox oy (.bool a) (.bool b); binOp op t (.bool a) (.bool b) : Sem Value)).run P w = .ok v w ∧ RelV w Wr ρ objs r v := by
  unfold aBoolEq at h
  split at h
  · rename_i ht
    have hu := hT.under ht
    simp only at hu
    have hg := eqGuard_bool P op t ox oy a b w
    have he : (Op.equal t (.bool a) (.bool b)).run P w = .ok (a == b) w := equalIn_bool hu 9999 w
    split at h
    · cases h
      exact ⟨_, by simp [hg, binOp, he], .d _ _ (.bool _)⟩
    · cases h
      exact ⟨_, by simp [hg, binOp, he], .d _ _ (.bool _)⟩
    · cases h
  · cases h

/-- A pointer held against none. -/
def aNil (T : Nat → Option TY) (t : Nat) (op : BinOp) (b : Bool) : Option AV :=
  match T t with
  | some ⟨.pointer _, _, _, _⟩ => match op with
    | .eql => some (.d (.bool b))
    | .neq => some (.d (.bool (!b)))
    | _ => none
  | _ => none

theorem equalIn_nil1 {P : Program} {t e : TypeId} (hu : P.underlying t = some (.pointer e)) {q : Option Addr} (d : Nat) (w : World) : (Op.equalIn (d + 1) t (.pointer none) (.pointer q)).run P w = .ok q.isNone w := by
  simp [Op.equalIn, run_underlying hu]
theorem equalIn_nil2 {P : Program} {t e : TypeId} (hu : P.underlying t = some (.pointer e)) {a : Addr} (d : Nat) (w : World) : (Op.equalIn (d + 1) t (.pointer (some a)) (.pointer none)).run P w = .ok false w := by
  simp [Op.equalIn, run_underlying hu]

theorem aNil_ok {P : Program} {T : Nat → Option TY} (hT : TOk P T) {op : BinOp} {r : AV} (t : TypeId) (ox oy : Operand) {w : World} {Wr : Nat → Prop} {ρ : Nat → Option (Nat × Nat)} {objs : List AObj} {p q : Option Addr} {b : Bool}
    (hpq : (p = none ∧ q.isNone = b) ∨ (p.isSome = true ∧ q = none ∧ b = false)) (h : aNil T t op b = some r) :
    ∃ v, ((do eqGuard op t ox oy (.pointer p) (.pointer q); binOp op t (.pointer p) (.pointer q) : Sem Value)).run P w = .ok v w ∧ RelV w Wr ρ objs r v := by
  unfold aNil at h
  split at h
  · rename_i e sz by' z ht
    have hu : P.underlying t = some (.pointer e) := by
      have := hT.under ht
      simpa using this
    have hg : (eqGuard op t ox oy (.pointer p) (.pointer q)).run P w = .ok () w := by unfold eqGuard; split <;> simp
    have he : (Op.equal t (.pointer p) (.pointer q)).run P w = .ok b w := by
      rcases hpq with ⟨rfl, rfl⟩ | ⟨hp, rfl, rfl⟩
      · exact equalIn_nil1 hu 9999 w
      · obtain ⟨a, rfl⟩ := Option.isSome_iff_exists.1 hp
        exact equalIn_nil2 hu 9999 w
    split at h
    · cases h
      exact ⟨_, by simp [hg, binOp, he], .d _ _ (.bool _)⟩
    · cases h
      exact ⟨_, by simp [hg, binOp, he], .d _ _ (.bool _)⟩
    · cases h
  · cases h

/-- Nil, as a slice's literal. -/
def nilSl : Operand → Bool
  | .const (.slice none 0 0) => true
  | _ => false

/-- A slice held against nil: of none of its elements nobody knows whether it is nil. -/
def aNilS (T : Nat → Option TY) (t : Nat) (op : BinOp) (x : AV) : Option AV :=
  match T t with
  | some ⟨.slice _, _, _, _⟩ => match op with
    | .eql => match x with
      | .nils => some (.d (.bool true))
      | .d (.sl l) => match l with
        | [] => some .ub
        | _ :: _ => some (.d (.bool false))
      | _ => none
    | .neq => match x with
      | .nils => some (.d (.bool false))
      | .d (.sl l) => match l with
        | [] => some .ub
        | _ :: _ => some (.d (.bool true))
      | _ => none
    | _ => none
  | _ => none

theorem nilSl_eval {y : Operand} (h : nilSl y = true) (a : Act) : a.eval y = .slice none 0 0 := by
  unfold nilSl at h
  split at h
  · rfl
  · cases h
theorem relV_ub {w : World} {Wr : Nat → Prop} {ρ : Nat → Option (Nat × Nat)} {objs : List AObj} {v : Value} (h : RelV w Wr ρ objs .ub v) : ∃ b, v = .bool b := by
  cases h; exact ⟨_, rfl⟩

theorem equalIn_nilS {P : Program} {t e : TypeId} (hu : P.underlying t = some (.slice e)) {p : Option Addr} {n c : Nat} (d : Nat) (w : World) : (Op.equalIn (d + 1) t (.slice p n c) (.slice none 0 0)).run P w = .ok p.isNone w := by
  cases p <;> simp [Op.equalIn, run_underlying hu]

theorem aNilS_ok {P : Program} {T : Nat → Option TY} (hT : TOk P T) {op : BinOp} {r x : AV} (t : TypeId) (ox oy : Operand) {w : World} {Wr : Nat → Prop} {ρ : Nat → Option (Nat × Nat)} {objs : List AObj} {v : Value}
    (hx : RelV w Wr ρ objs x v) (h : aNilS T t op x = some r) :
    ∃ u, ((do eqGuard op t ox oy v (.slice none 0 0); binOp op t v (.slice none 0 0) : Sem Value)).run P w = .ok u w ∧ RelV w Wr ρ objs r u := by
  unfold aNilS at h
  split at h
  · rename_i e sz by' z ht
    have hu : P.underlying t = some (.slice e) := by
      have := hT.under ht
      simpa using this
    have hg : ∀ (p : Option Addr) (n c : Nat), (eqGuard op t ox oy (.slice p n c) (.slice none 0 0)).run P w = .ok () w := by intro p n c; unfold eqGuard; split <;> simp
    have he : ∀ (p : Option Addr) (n c : Nat), (Op.equal t (.slice p n c) (.slice none 0 0)).run P w = .ok p.isNone w := fun p n c => equalIn_nilS hu 9999 w
    have one : ∀ (b : Bool), (op = .eql ∧ r = .d (.bool b) ∨ op = .neq ∧ r = .d (.bool (!b)) ∨ (op = .eql ∨ op = .neq) ∧ r = .ub) → ∀ (p : Option Addr) (n c : Nat), (r = .ub ∨ p.isNone = b) → v = .slice p n c →
        ∃ u, ((do eqGuard op t ox oy v (.slice none 0 0); binOp op t v (.slice none 0 0) : Sem Value)).run P w = .ok u w ∧ RelV w Wr ρ objs r u := by
      intro b hb p n c hp hv
      subst hv
      rcases hb with ⟨rfl, rfl⟩ | ⟨rfl, rfl⟩ | ⟨rfl | rfl, rfl⟩
      · have hp := hp.resolve_left (by intro h; cases h)
        exact ⟨.bool b, by simp [hg, binOp, he, hp], .d _ _ (.bool _)⟩
      · have hp := hp.resolve_left (by intro h; cases h)
        exact ⟨.bool (!b), by simp [hg, binOp, he, hp], .d _ _ (.bool _)⟩
      · exact ⟨.bool p.isNone, by simp [hg, binOp, he], .ub _⟩
      · exact ⟨.bool (!p.isNone), by simp [hg, binOp, he], .ub _⟩
    have emp : ∀ (x : AV), RelV w Wr ρ objs x v → (x = .nils ∨ x = .d (.sl [])) → ∃ p c, v = .slice p 0 c := by
      intro x hx h
      rcases h with rfl | rfl
      · cases hx; exact ⟨_, _, rfl⟩
      · cases hx with
        | d _ _ h => cases h with
          | sl0 p cap => exact ⟨_, _, rfl⟩
          | sl => exact absurd rfl ‹_›
    have ful : ∀ (a : List D) (l : List (List D)), RelV w Wr ρ objs (.d (.sl (a :: l))) v → ∃ a n c, v = .slice (some a) n c := by
      intro a l hx
      cases hx with
      | d _ _ h => cases h with
        | sl => exact ⟨_, _, _, rfl⟩
    split at h
    · split at h
      · cases h
        cases hx
        exact one true (.inl ⟨rfl, rfl⟩) none 0 0 (.inr rfl) rfl
      · split at h
        · cases h
          obtain ⟨p, c, hv⟩ := emp _ hx (.inr rfl)
          exact one false (.inr (.inr ⟨.inl rfl, rfl⟩)) p 0 c (.inl rfl) hv
        · cases h
          obtain ⟨a, n, c, hv⟩ := ful _ _ hx
          exact one false (.inl ⟨rfl, rfl⟩) _ n c (.inr rfl) hv
      · cases h
    · split at h
      · cases h
        cases hx
        exact one true (.inr (.inl ⟨rfl, rfl⟩)) none 0 0 (.inr rfl) rfl
      · split at h
        · cases h
          obtain ⟨p, c, hv⟩ := emp _ hx (.inr rfl)
          exact one false (.inr (.inr ⟨.inr rfl, rfl⟩)) p 0 c (.inl rfl) hv
        · cases h
          obtain ⟨a, n, c, hv⟩ := ful _ _ hx
          exact one false (.inr (.inl ⟨rfl, rfl⟩)) _ n c (.inr rfl) hv
      · cases h
    · cases h
  · cases h

end Go.AI
