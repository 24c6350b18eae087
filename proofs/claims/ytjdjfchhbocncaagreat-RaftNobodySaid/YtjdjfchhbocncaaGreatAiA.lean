/- Abstract values, abstract states, and what they say of a world: plain definitions and their first laws. -/
import Derived.WalkKit
import Derived.ControlIn
import Derived.CallsIn
import Derived.MapKept
namespace Go.AI

/-- Data that nobody changes any more. A slice is a list of rows, a row the cells of one element. -/
inductive D where
  | bool (b : Bool)
  | int (k : IntKind) (n : Int)
  | str (s : List UInt8)
  | nilp | nilfn | nilif | nilmap | nilsl
  | sl (rows : List (List D))
  deriving Inhabited

/-- Abstract values. -/
inductive AV where
  | d (x : D)
  | win (id off len gen : Nat)
  | ptr (id gen row col : Nat)
  | rptr (row : List D) (j : Nat)
  | agg (cells : List AV)
  | ar (ds : List D)
  | tup (vs : List AV)
  | fn (f : Fn) (cap : List AV)
  | nils
  | skip
  | undef
  | ub
  | uc
  | mp (id gen : Nat)
  deriving Inhabited

/-- A variable, its cells; or an array behind slices, its elements: an element's cells are data; or a map whose keys are texts. -/
inductive AObj where
  | var (cells : List AV) (g : Nat)
  | arr (rs : List (List D)) (n : Nat) (g : Nat)
  | map (l : List (List UInt8 × AV)) (g : Nat)
  | arv (cells : List AV) (n : Nat) (g : Nat)
  deriving Inhabited

/-- Cells, so many in a row. -/
def chunks (n : Nat) (cells : List AV) : List (List AV) := (List.range (cells.length / n)).map fun i => (cells.drop (i * n)).take n

def AObj.isMap : AObj → Bool
  | .map _ _ => true
  | _ => false

def AObj.rows : AObj → List (List AV)
  | .var cells _ => [cells]
  | .arr rs _ _ => rs.map (·.map .d)
  | .map _ _ => []
  | .arv cells n _ => chunks n cells
def AObj.sz : AObj → Nat
  | .var cells _ => cells.length
  | .arr _ n _ => n
  | .map _ _ => 0
  | .arv _ n _ => n
def AObj.gen : AObj → Nat
  | .var _ g => g
  | .arr _ _ g => g
  | .map _ g => g
  | .arv _ _ g => g

structure AS where
  tmps : List (Nat × AV)
  objs : List AObj
  deriving Inhabited

def look : List (Nat × AV) → Nat → AV
  | [], _ => .undef
  | (s, v) :: rest, t => if s = t then v else look rest t

def AS.get (σ : AS) (t : Nat) : AV := look σ.tmps t
def AS.put (σ : AS) (t : Nat) (v : AV) : AS := { σ with tmps := (t, v) :: σ.tmps }
def AS.puto (σ : AS) (t : Option Nat) (v : AV) : AS := match t with | some t => σ.put t v | none => σ

/-- A row's cell. -/
def rcell (rows : List (List D)) (i j : Nat) : D := (rows.getD i []).getD j .nilp
def acell (rows : List (List AV)) (i j : Nat) : AV := (rows.getD i []).getD j .undef

inductive RelD (w : World) (Wr : Nat → Prop) : D → Value → Prop
  | bool (b : Bool) : RelD w Wr (.bool b) (.bool b)
  | int (k : IntKind) (n : Int) : RelD w Wr (.int k n) (.int k n)
  | str (l : List UInt8) (s : ByteArray) (h : s.data.toList = l) : RelD w Wr (.str l) (.string s)
  | nilp : RelD w Wr .nilp (.pointer none)
  | nilfn : RelD w Wr .nilfn .nilFunc
  | nilif : RelD w Wr .nilif .nilIface
  | nilmap : RelD w Wr .nilmap (.map none)
  | nilsl : RelD w Wr .nilsl (.slice none 0 0)
  | sl0 (p : Option Addr) (cap : Nat) : RelD w Wr (.sl []) (.slice p 0 cap)
  | sl (rows : List (List D)) (b off sz cap : Nat) (vs : Nat → Nat → Value) (hne : rows ≠ []) (h0 : 0 < sz) (hb : ¬ Wr b) (hsz : ∀ r ∈ rows, r.length = sz)
      (hc : ∀ i j, i < rows.length → j < sz → w.cell? ⟨b, off + (i * sz + j), none⟩ = some (vs i j))
      (hd : ∀ i j, i < rows.length → j < sz → RelD w Wr (rcell rows i j) (vs i j))
      (hcap : rows.length ≤ cap) : RelD w Wr (.sl rows) (.slice (some ⟨b, off, none⟩) rows.length cap)

/-- Nothing outside a set of blocks changed, no block became smaller. -/
structure Frm (Wr : Nat → Prop) (w w' : World) : Prop where
  os : w'.os = w.os
  tape : w'.tape = w.tape
  output : w'.output = w.output
  size : w.heap.size ≤ w'.heap.size
  same : ∀ b, b < w.heap.size → ¬ Wr b → w'.heap[b]? = w.heap[b]?
  cells : ∀ (b : Nat) (c : Array Value) (e : TypeId) (f : Nat × Nat), w.heap[b]? = some (.cells c e f) → ∃ (c' : Array Value) (f' : Nat × Nat), w'.heap[b]? = some (.cells c' e f') ∧ c'.size = c.size

theorem Frm.refl (Wr : Nat → Prop) (w : World) : Frm Wr w w := ⟨rfl, rfl, rfl, Nat.le_refl _, fun _ _ _ => rfl, fun _ c _ f h => ⟨c, f, h, rfl⟩⟩
theorem Frm.mono {Wr Wr' : Nat → Prop} {w w' : World} (h : Frm Wr w w') (hs : ∀ b, b < w.heap.size → Wr b → Wr' b) : Frm Wr' w w' :=
  ⟨h.os, h.tape, h.output, h.size, fun b hb hw => h.same b hb (fun hh => hw (hs b hb hh)), h.cells⟩
theorem Frm.trans {Wr Wr' : Nat → Prop} {a b c : World} (h : Frm Wr a b) (k : Frm Wr' b c) (hw : ∀ x, x < a.heap.size → Wr' x → Wr x) : Frm Wr a c :=
  ⟨k.os.trans h.os, k.tape.trans h.tape, k.output.trans h.output, Nat.le_trans h.size k.size, fun x hx hn => (k.same x (Nat.lt_of_lt_of_le hx h.size) (fun h1 => hn (hw x hx h1))).trans (h.same x hx hn), fun x cs e f hc => by
    obtain ⟨c1, f1, h1, e1⟩ := h.cells x cs e f hc
    obtain ⟨c2, f2, h2, e2⟩ := k.cells x c1 e f1 h1
    exact ⟨c2, f2, h2, e2.trans e1⟩⟩
theorem Frm.below {w w' : World} (h : Frm (fun _ => False) w w') : Go.RowKit.Below w.heap.size w w' := ⟨h.os, h.tape, h.output, h.size, fun k hk => h.same k hk (fun h => h)⟩

theorem chunks_get {n : Nat} {cells : List AV} {i : Nat} (h : i < (chunks n cells).length) : (chunks n cells).getD i [] = (cells.drop (i * n)).take n ∧ (i + 1) * n ≤ cells.length := by
  have h' : i < cells.length / n := by simpa [chunks] using h
  refine ⟨by simp [chunks, List.getD_eq_getElem?_getD, h'], ?_⟩
  have := Nat.mul_le_mul_right n (show i + 1 ≤ cells.length / n by omega)
  exact Nat.le_trans this (Nat.div_mul_le_self _ _)
theorem chunks_row {n : Nat} {cells : List AV} : ∀ r ∈ chunks n cells, r.length = n := by
  intro r hr
  obtain ⟨i, hi, rfl⟩ := List.mem_iff_getElem.1 hr
  obtain ⟨h1, h2⟩ := chunks_get (n := n) (cells := cells) hi
  have h3 : (chunks n cells)[i] = (chunks n cells).getD i [] := by simp [List.getD_eq_getElem?_getD, hi]
  rw [h3, h1, List.length_take, List.length_drop]
  rw [Nat.add_mul, Nat.one_mul] at h2
  omega
theorem chunks_cell {n : Nat} {cells : List AV} {i j : Nat} (h : i < (chunks n cells).length) (hj : j < n) : acell (chunks n cells) i j = cells.getD (i * n + j) .undef := by
  unfold acell
  rw [(chunks_get h).1]
  simp only [List.getD_eq_getElem?_getD]
  rw [List.getElem?_take_of_lt hj, List.getElem?_drop]

theorem cell_lt {w : World} {a : Addr} {v : Value} (h : w.cell? a = some v) : a.block < w.heap.size := by
  unfold World.cell? at h
  cases hh : w.heap[a.block]? with
  | none => simp [hh] at h
  | some o => exact (Array.getElem?_eq_some_iff.1 hh).1

theorem heap_lt {w : World} {b : Nat} {o : Obj} (h : w.heap[b]? = some o) : b < w.heap.size := (Array.getElem?_eq_some_iff.1 h).1

theorem cell_congr {w w' : World} {a : Addr} (h : w'.heap[a.block]? = w.heap[a.block]?) : w'.cell? a = w.cell? a := by
  unfold World.cell?
  rw [h]

theorem frozen_congr {w w' : World} {a : Addr} (h : w'.heap[a.block]? = w.heap[a.block]?) : w'.frozen? a = w.frozen? a := by
  unfold World.frozen?
  rw [h]

/-- Data stays, where nothing outside the writable blocks changed, and no block of old came to be writable. -/
theorem RelD.stay {w w' : World} {Wr Wr' : Nat → Prop} {x : D} {v : Value} (h : RelD w Wr x v)
    (hs : ∀ b, b < w.heap.size → ¬ Wr b → w'.heap[b]? = w.heap[b]?) (hw : ∀ b, b < w.heap.size → ¬ Wr b → ¬ Wr' b) : RelD w' Wr' x v := by
  induction h with
  | bool b => exact .bool b
  | int k n => exact .int k n
  | str l s h => exact .str l s h
  | nilp => exact .nilp
  | nilfn => exact .nilfn
  | nilif => exact .nilif
  | nilmap => exact .nilmap
  | nilsl => exact .nilsl
  | sl0 p cap => exact .sl0 p cap
  | sl rows b off sz cap vs hne h0 hb hsz hc _ hcap ih =>
    have hr : 0 < rows.length := List.length_pos_iff.2 hne
    have hlt := cell_lt (hc 0 0 hr h0)
    refine .sl rows b off sz cap vs hne h0 (hw b hlt hb) hsz (fun i j hi hj => ?_) ih hcap
    rw [cell_congr (hs b hlt hb)]
    exact hc i j hi hj

/-- A slice over an object's rows. An object of generation 0 is a variable: a slice may end ahead of it. -/
structure WinOk (w : World) (ρ : Nat → Option (Nat × Nat)) (id : Nat) (o : AObj) (off len : Nat) (v : Value) : Prop where
  fits : off + len ≤ o.rows.length
  says : ∃ (p : Option Addr) (cap : Nat), v = .slice p len cap ∧ (len ≤ cap ∧ (o.gen = 0 ∨ o.rows.length ≤ off + cap)) ∧
    (cap = 0 ∨ ∃ b δ c e f, ρ id = some (b, δ) ∧ p = some ⟨b, δ + off * o.sz, none⟩ ∧ w.heap[b]? = some (.cells c e f) ∧ δ + (off + cap) * o.sz ≤ c.size)

inductive RelV (w : World) (Wr : Nat → Prop) (ρ : Nat → Option (Nat × Nat)) (objs : List AObj) : AV → Value → Prop
  | d (x : D) (v : Value) (h : RelD w Wr x v) : RelV w Wr ρ objs (.d x) v
  | win (id off len gen : Nat) (v : Value) (o : AObj) (ho : objs[id]? = some o) (hg : gen ≤ o.gen) (hs : ∃ p cap, v = .slice p len cap) (h : gen = o.gen → WinOk w ρ id o off len v) :
      RelV w Wr ρ objs (.win id off len gen) v
  | ptr (id gen row col : Nat) (v : Value) (o : AObj) (ho : objs[id]? = some o) (hg : gen ≤ o.gen) (hs : ∃ a, v = .pointer (some a))
      (h : gen = o.gen → ∃ b δ, ρ id = some (b, δ) ∧ v = .pointer (some ⟨b, δ + (row * o.sz + col), none⟩)) : RelV w Wr ρ objs (.ptr id gen row col) v
  | rptr (row : List D) (j b o : Nat) (vs : Nat → Value) (h0 : 0 < row.length) (hb : ¬ Wr b) (hc : ∀ k, k < row.length → w.cell? ⟨b, o + k, none⟩ = some (vs k))
      (hd : ∀ k, k < row.length → RelD w Wr (row.getD k .nilp) (vs k)) : RelV w Wr ρ objs (.rptr row j) (.pointer (some ⟨b, o + j, none⟩))
  | agg (cells : List AV) (vs : Array Value) (hl : cells.length = vs.size) (h : ∀ i, i < cells.length → RelV w Wr ρ objs (cells.getD i .undef) (vs.getD i undef)) :
      RelV w Wr ρ objs (.agg cells) (.agg vs)
  | ar (ds : List D) (vs : Array Value) (hl : ds.length = vs.size) (h : ∀ i, i < ds.length → RelD w Wr (ds.getD i .nilp) (vs.getD i undef)) : RelV w Wr ρ objs (.ar ds) (.agg vs)
  | tup (cells : List AV) (vs : Array Value) (hl : cells.length = vs.size) (h : ∀ i, i < cells.length → RelV w Wr ρ objs (cells.getD i .undef) (vs.getD i undef)) :
      RelV w Wr ρ objs (.tup cells) (.tuple vs)
  | fn (f : Fn) (cells : List AV) (vs : Array Value) (hl : cells.length = vs.size) (h : ∀ i, i < cells.length → RelV w Wr ρ objs (cells.getD i .undef) (vs.getD i undef)) :
      RelV w Wr ρ objs (.fn f cells) (.func f #[] vs)
  | nils : RelV w Wr ρ objs .nils (.slice none 0 0)
  | skip : RelV w Wr ρ objs .skip Go.undef
  | undef (v : Value) : RelV w Wr ρ objs .undef v
  | ub (b : Bool) : RelV w Wr ρ objs .ub (.bool b)
  | uc (v : Value) (h : v.oneCell' = true ∧ v.cells = #[v]) : RelV w Wr ρ objs .uc v
  | mp (id gen : Nat) (v : Value) (o : AObj) (ho : objs[id]? = some o) (hg : gen ≤ o.gen) (hs : ∃ b, v = .map (some b))
      (h : gen = o.gen → ∃ b δ, ρ id = some (b, δ) ∧ v = .map (some b)) : RelV w Wr ρ objs (.mp id gen) v

/-- Objects go on: each is there still, of the same shape and place, or of a later generation. -/
structure Ext (objs : List AObj) (ρ : Nat → Option (Nat × Nat)) (objs' : List AObj) (ρ' : Nat → Option (Nat × Nat)) : Prop where
  ext : ∀ id o, objs[id]? = some o → ∃ o', objs'[id]? = some o' ∧ o.gen ≤ o'.gen ∧ (o.gen = o'.gen → o.sz = o'.sz ∧ o.rows.length = o'.rows.length ∧ ρ' id = ρ id)

theorem Ext.trans {objs objs' objs'' : List AObj} {ρ ρ' ρ'' : Nat → Option (Nat × Nat)} (h : Ext objs ρ objs' ρ') (k : Ext objs' ρ' objs'' ρ'') : Ext objs ρ objs'' ρ'' := by
  refine ⟨fun id o ho => ?_⟩
  obtain ⟨o1, h1, h2, h3⟩ := h.ext id o ho
  obtain ⟨o2, k1, k2, k3⟩ := k.ext id o1 h1
  refine ⟨o2, k1, Nat.le_trans h2 k2, fun e => ?_⟩
  obtain ⟨a, b, c⟩ := h3 (by omega)
  obtain ⟨a', b', c'⟩ := k3 (by omega)
  exact ⟨a.trans a', b.trans b', c'.trans c⟩

theorem Ext.refl (objs : List AObj) (ρ : Nat → Option (Nat × Nat)) : Ext objs ρ objs ρ := ⟨fun _ o h => ⟨o, h, Nat.le_refl _, fun _ => ⟨rfl, rfl, rfl⟩⟩⟩

theorem WinOk.stay {w w' : World} {ρ ρ' : Nat → Option (Nat × Nat)} {id : Nat} {o o' : AObj} {off len : Nat} {v : Value} (h : WinOk w ρ id o off len v)
    (hc : ∀ (b : Nat) (c : Array Value) (e : TypeId) (f : Nat × Nat), w.heap[b]? = some (.cells c e f) → ∃ (c' : Array Value) (f' : Nat × Nat), w'.heap[b]? = some (.cells c' e f') ∧ c'.size = c.size)
    (hge : o.gen = o'.gen) (hz : o.sz = o'.sz) (hr : o.rows.length = o'.rows.length) (hρ : ρ' id = ρ id) : WinOk w' ρ' id o' off len v := by
  obtain ⟨hf, p, cap, hv, hl, hp⟩ := h
  refine ⟨hr ▸ hf, p, cap, hv, hge ▸ hr ▸ hl, ?_⟩
  rcases hp with h0 | ⟨b, δ, c, e, f, h1, h2, h3, h4⟩
  · exact .inl h0
  · obtain ⟨c', f', h5, h6⟩ := hc b c e f h3
    exact .inr ⟨b, δ, c', e, f', hρ.trans h1, hz ▸ h2, h5, by rw [h6, ← hz]; exact h4⟩

theorem RelV.stay {w w' : World} {Wr Wr' : Nat → Prop} {ρ ρ' : Nat → Option (Nat × Nat)} {objs objs' : List AObj} {x : AV} {v : Value} (h : RelV w Wr ρ objs x v)
    (hf : Frm Wr w w') (hw : ∀ b, b < w.heap.size → ¬ Wr b → ¬ Wr' b) (he : Ext objs ρ objs' ρ') : RelV w' Wr' ρ' objs' x v := by
  induction h with
  | d x v h => exact .d x v (h.stay hf.same hw)
  | win id off len gen v o ho hg hs h =>
    obtain ⟨o', ho', hle, hsame⟩ := he.ext id o ho
    refine .win id off len gen v o' ho' (Nat.le_trans hg hle) hs fun hgen => ?_
    have hg2 : gen = o.gen := by omega
    obtain ⟨h1, h2, h3⟩ := hsame (by omega)
    exact (h hg2).stay hf.cells (by omega) h1 h2 h3
  | ptr id gen row col v o ho hg hs h =>
    obtain ⟨o', ho', hle, hsame⟩ := he.ext id o ho
    refine .ptr id gen row col v o' ho' (Nat.le_trans hg hle) hs fun hgen => ?_
    have hg2 : gen = o.gen := by omega
    obtain ⟨h1, h2, h3⟩ := hsame (by omega)
    obtain ⟨b, δ, hb, hv⟩ := h hg2
    exact ⟨b, δ, h3.trans hb, h1 ▸ hv⟩
  | rptr row j b o vs h0 hb hc hd =>
    have hlt := cell_lt (hc 0 h0)
    exact .rptr row j b o vs h0 (hw b hlt hb) (fun k hk => by rw [cell_congr (hf.same b hlt hb)]; exact hc k hk) fun k hk => (hd k hk).stay hf.same hw
  | agg cells vs hl _ ih => exact .agg cells vs hl ih
  | ar ds vs hl h => exact .ar ds vs hl fun i hi => (h i hi).stay hf.same hw
  | tup cells vs hl _ ih => exact .tup cells vs hl ih
  | fn f cells vs hl _ ih => exact .fn f cells vs hl ih
  | nils => exact .nils
  | skip => exact .skip
  | undef v => exact .undef v
  | ub b => exact .ub b
  | uc v h => exact .uc v h
  | mp id gen v o ho hg hs h =>
    obtain ⟨o', ho', hle, hsame⟩ := he.ext id o ho
    refine .mp id gen v o' ho' (Nat.le_trans hg hle) hs fun hgen => ?_
    have hg2 : gen = o.gen := by omega
    obtain ⟨h1, h2, h3⟩ := hsame (by omega)
    obtain ⟨b, δ, hb, hv⟩ := h hg2
    exact ⟨b, δ, h3.trans hb, hv⟩

/-- A map's entries are those of a list. -/
structure EntsRel (w : World) (Wr : Nat → Prop) (ρ : Nat → Option (Nat × Nat)) (objs : List AObj) (l : List (List UInt8 × AV)) (es : Array MapEntry) (clock : Nat) : Prop where
  st : Go.MapKept.Stamped es clock
  len : es.toList.length = l.length
  each : ∀ (i : Nat) (x : List UInt8 × AV) (e : MapEntry), l[i]? = some x → es.toList[i]? = some e → (∃ s : ByteArray, e.key = .string s ∧ s.data.toList = x.1) ∧ RelV w Wr ρ objs x.2 e.val

theorem EntsRel.stay {w w' : World} {Wr Wr' : Nat → Prop} {ρ ρ' : Nat → Option (Nat × Nat)} {objs objs' : List AObj} {l : List (List UInt8 × AV)} {es : Array MapEntry} {clock : Nat} (h : EntsRel w Wr ρ objs l es clock)
    (hf : Frm Wr w w') (hw : ∀ b, b < w.heap.size → ¬ Wr b → ¬ Wr' b) (he : Ext objs ρ objs' ρ') : EntsRel w' Wr' ρ' objs' l es clock :=
  ⟨h.st, h.len, fun i x e hx hy => ⟨(h.each i x e hx hy).1, (h.each i x e hx hy).2.stay hf hw he⟩⟩

/-- An object lies at a block, from a place on. -/
def LiesAt (w : World) (Wr : Nat → Prop) (ρ : Nat → Option (Nat × Nat)) (objs : List AObj) (o : AObj) (b δ : Nat) : Prop :=
  match o with
  | .map l _ => ∃ (es : Array MapEntry) (clock : Nat), w.heap[b]? = some (.map es clock) ∧ EntsRel w Wr ρ objs l es clock
  | _ => ∃ (c : Array Value) (e : TypeId) (f : Nat × Nat), w.heap[b]? = some (.cells c e f) ∧ (∀ i, i < c.size → w.frozen? ⟨b, i, none⟩ = false) ∧
      δ + o.rows.length * o.sz ≤ c.size ∧ ∀ i j, i < o.rows.length → j < o.sz → RelV w Wr ρ objs (acell o.rows i j) (c.getD (δ + (i * o.sz + j)) undef)

theorem LiesAt.cells {w : World} {Wr : Nat → Prop} {ρ : Nat → Option (Nat × Nat)} {objs : List AObj} {o : AObj} {b δ : Nat} (h : LiesAt w Wr ρ objs o b δ) (hm : o.isMap = false) :
    ∃ (c : Array Value) (e : TypeId) (f : Nat × Nat), w.heap[b]? = some (.cells c e f) ∧ (∀ i, i < c.size → w.frozen? ⟨b, i, none⟩ = false) ∧
      δ + o.rows.length * o.sz ≤ c.size ∧ ∀ i j, i < o.rows.length → j < o.sz → RelV w Wr ρ objs (acell o.rows i j) (c.getD (δ + (i * o.sz + j)) undef) := by
  cases o with
  | map l g => cases hm
  | var => exact h
  | arr => exact h
  | arv => exact h

theorem LiesAt.mk {w : World} {Wr : Nat → Prop} {ρ : Nat → Option (Nat × Nat)} {objs : List AObj} {o : AObj} {b δ : Nat} (hm : o.isMap = false)
    (h : ∃ (c : Array Value) (e : TypeId) (f : Nat × Nat), w.heap[b]? = some (.cells c e f) ∧ (∀ i, i < c.size → w.frozen? ⟨b, i, none⟩ = false) ∧
      δ + o.rows.length * o.sz ≤ c.size ∧ ∀ i j, i < o.rows.length → j < o.sz → RelV w Wr ρ objs (acell o.rows i j) (c.getD (δ + (i * o.sz + j)) undef)) : LiesAt w Wr ρ objs o b δ := by
  cases o with
  | map l g => cases hm
  | var => exact h
  | arr => exact h
  | arv => exact h

theorem LiesAt.map {w : World} {Wr : Nat → Prop} {ρ : Nat → Option (Nat × Nat)} {objs : List AObj} {o : AObj} {b δ : Nat} (h : LiesAt w Wr ρ objs o b δ) (hm : o.isMap = true) :
    ∃ (l : List (List UInt8 × AV)) (g : Nat) (es : Array MapEntry) (clock : Nat), o = .map l g ∧ w.heap[b]? = some (.map es clock) ∧ EntsRel w Wr ρ objs l es clock := by
  cases o with
  | map l g => obtain ⟨es, k, h1, h2⟩ := h; exact ⟨l, g, es, k, rfl, h1, h2⟩
  | var => cases hm
  | arr => cases hm
  | arv => cases hm

theorem LiesAt.there {w : World} {Wr : Nat → Prop} {ρ : Nat → Option (Nat × Nat)} {objs : List AObj} {o : AObj} {b δ : Nat} (h : LiesAt w Wr ρ objs o b δ) :
    (∃ (c : Array Value) (e : TypeId) (f : Nat × Nat), w.heap[b]? = some (.cells c e f)) ∨ ∃ (es : Array MapEntry) (clock : Nat), w.heap[b]? = some (.map es clock) := by
  cases o with
  | map l g => obtain ⟨es, k, h1, _⟩ := h; exact .inr ⟨es, k, h1⟩
  | var => obtain ⟨c, e, f, h, _⟩ := h; exact .inl ⟨c, e, f, h⟩
  | arr => obtain ⟨c, e, f, h, _⟩ := h; exact .inl ⟨c, e, f, h⟩
  | arv => obtain ⟨c, e, f, h, _⟩ := h; exact .inl ⟨c, e, f, h⟩

theorem LiesAt.lt {w : World} {Wr : Nat → Prop} {ρ : Nat → Option (Nat × Nat)} {objs : List AObj} {o : AObj} {b δ : Nat} (h : LiesAt w Wr ρ objs o b δ) : b < w.heap.size := by
  rcases h.there with ⟨_, _, _, h⟩ | ⟨_, _, h⟩ <;> exact heap_lt h

theorem LiesAt.stay {w w' : World} {Wr Wr' : Nat → Prop} {ρ ρ' : Nat → Option (Nat × Nat)} {objs objs' : List AObj} {o : AObj} {b δ : Nat} (h : LiesAt w Wr ρ objs o b δ) (hs : w'.heap[b]? = w.heap[b]?)
    (hf : Frm Wr w w') (hw : ∀ b, b < w.heap.size → ¬ Wr b → ¬ Wr' b) (he : Ext objs ρ objs' ρ') : LiesAt w' Wr' ρ' objs' o b δ := by
  by_cases hm : o.isMap = true
  · obtain ⟨l, g, es, k, rfl, h1, h2⟩ := h.map hm
    exact ⟨es, k, hs.trans h1, h2.stay hf hw he⟩
  · have hm : o.isMap = false := by simpa using hm
    obtain ⟨c, e, f, h1, h2, h3, h4⟩ := h.cells hm
    refine .mk hm ⟨c, e, f, hs.trans h1, fun i hi => ?_, h3, fun i j hi hj => (h4 i j hi hj).stay hf hw he⟩
    rw [frozen_congr (w := w) (w' := w') hs]; exact h2 i hi

/-- An object lies in memory: at a block, from a place on; an array without rows may lie nowhere. -/
structure RelO (w : World) (Wr : Nat → Prop) (ρ : Nat → Option (Nat × Nat)) (objs : List AObj) (id : Nat) (o : AObj) : Prop where
  rowsz : ∀ r ∈ o.rows, r.length = o.sz
  lies : match ρ id with
    | none => o.rows = []
    | some (b, δ) => LiesAt w Wr ρ objs o b δ

/-- What a walk keeps in mind: how many slots, the calls put off, the blocks that are the caller's alone, those that it lent, the world at the beginning. -/
structure Fr where
  nt : Nat
  ds : List Deferred
  Am : Nat → Prop
  Bor : Nat → Prop
  w0 : World
  o0 : List AObj
  r0 : Nat → Option (Nat × Nat)

def Wrt (F : Fr) (ρ : Nat → Option (Nat × Nat)) (objs : List AObj) (b : Nat) : Prop := F.Am b ∨ ∃ id o δ, objs[id]? = some o ∧ ρ id = some (b, δ)

structure RelH (F : Fr) (ρ : Nat → Option (Nat × Nat)) (objs : List AObj) (w : World) : Prop where
  ob : ∀ id o, objs[id]? = some o → RelO w (Wrt F ρ objs) ρ objs id o
  inj : ∀ id id' o o' b δ δ', objs[id]? = some o → objs[id']? = some o' → ρ id = some (b, δ) → ρ id' = some (b, δ') → id = id'
  own : ∀ id o b δ, objs[id]? = some o → ρ id = some (b, δ) → ¬ F.Am b ∧ (F.Bor b ∨ F.w0.heap.size ≤ b)
  am : ∀ b, F.Am b → b < F.w0.heap.size
  frm : Frm F.Bor F.w0 w
  ext : Ext F.o0 F.r0 objs ρ

/-- What is put off: beside what was, the loops over functions that have ended. -/
structure Marks (F : Fr) (w : World) (l : List Deferred) : Prop where
  are : ∃ Ds : List Nat, l = Ds.map (fun D => ({ target := .collected D, args := #[] } : Deferred)) ++ F.ds ∧ Ds.Nodup ∧ ∀ D ∈ Ds, F.w0.heap.size ≤ D ∧ w.heap[D]? = some (.deferred (some []))

theorem Marks.nil {F : Fr} {w : World} (h : F.ds = []) : Marks F w [] := ⟨[], by rw [h]; rfl, List.nodup_nil, fun _ h => by cases h⟩

theorem Marks.stay {F : Fr} {w w' : World} {l : List Deferred} {ρ : Nat → Option (Nat × Nat)} {objs : List AObj} (h : Marks F w l) (hp : RelH F ρ objs w) (hf : Frm (Wrt F ρ objs) w w') : Marks F w' l := by
  obtain ⟨Ds, h1, h2, h3⟩ := h.are
  refine ⟨Ds, h1, h2, fun D hD => ?_⟩
  obtain ⟨a, b⟩ := h3 D hD
  refine ⟨a, (hf.same D (heap_lt b) ?_).trans b⟩
  rintro (hA | ⟨id, o, δ, ho, hr⟩)
  · have := hp.am D hA; omega
  · have := (hp.ob id o ho).lies
    rw [hr] at this
    rcases this.there with ⟨c, e, f, k⟩ | ⟨c, e, k⟩ <;> (rw [b] at k; cases k)

structure Rel (F : Fr) (ρ : Nat → Option (Nat × Nat)) (σ : AS) (a : Act) (w : World) : Prop where
  nt : a.tmps.size = F.nt
  ds : Marks F w a.defers
  tm : ∀ t, RelV w (Wrt F ρ σ.objs) ρ σ.objs (σ.get t) (a.tmps.getD t undef)
  hp : RelH F ρ σ.objs w

end Go.AI
