/- Operations that only tell a value, calls among them, do what their abstract values say. -/
import Derived.Test.YtjdjfchhbocncaaGreatAiW
import Derived.Test.YtjdjfchhbocncaaGreatAiMa
import Derived.Laws.StructEq
namespace Go.AI
set_option linter.unusedVariables false

theorem RelO.world {w w' : World} {Wr : Nat → Prop} {ρ : Nat → Option (Nat × Nat)} {objs : List AObj} {id : Nat} {o : AObj} (h : RelO w Wr ρ objs id o) (hf : Frm (fun _ => False) w w') : RelO w' Wr ρ objs id o := by
  refine ⟨h.rowsz, ?_⟩
  have hl := h.lies
  cases hρ : ρ id with
  | none => rw [hρ] at hl; exact hl
  | some p =>
    obtain ⟨b, δ⟩ := p
    rw [hρ] at hl
    exact hl.stay (hf.same b hl.lt (fun h => h)) (hf.mono (fun _ _ h => h.elim)) (fun _ _ h => h) (Ext.refl _ _)

/-- Where nothing of old changed the states agree still. -/
theorem Rel.world {F : Fr} {ρ : Nat → Option (Nat × Nat)} {σ : AS} {a : Act} {w w' : World} (h : Rel F ρ σ a w) (hf : Frm (fun _ => False) w w') : Rel F ρ σ a w' := by
  refine ⟨h.nt, h.ds.stay h.hp (hf.mono (fun _ _ h => h.elim)), fun t => (h.tm t).stay (hf.mono (fun _ _ h => h.elim)) (fun _ _ h => h) (Ext.refl _ _), ?_⟩
  obtain ⟨h1, h2, h3, h4, h5, h6⟩ := h.hp
  exact ⟨fun id o ho => (h1 id o ho).world hf, h2, h3, h4, h5.trans hf (fun _ _ h => h.elim), h6⟩

theorem arr_getD_append (l m : Array Value) (i : Nat) : (l ++ m).getD i undef = if i < l.size then l.getD i undef else m.getD (i - l.size) undef := by
  simp only [Array.getD_eq_getD_getElem?]
  split
  · rename_i h; rw [Array.getElem?_append_left h]
  · rename_i h; rw [Array.getElem?_append_right (by omega)]

theorem args_ok {w : World} {Wr : Nat → Prop} {ρ : Nat → Option (Nat × Nat)} {objs : List AObj} {e : Env} {ce : Operand → Value} (he : ∀ x, RelV w Wr ρ objs (e x) (ce x)) (xs : Array Operand) :
    (xs.map ce).size = (xs.toList.map e).length ∧ ∀ i, i < (xs.toList.map e).length → RelV w Wr ρ objs ((xs.toList.map e).getD i .undef) ((xs.map ce).getD i undef) := by
  refine ⟨by simp, fun i hi => ?_⟩
  have hi' : i < xs.size := by simpa using hi
  have h1 : (xs.toList.map e).getD i .undef = e xs[i] := by simp [List.getD_eq_getElem?_getD, hi']
  have h2 : (xs.map ce).getD i undef = ce xs[i] := by simp [Array.getD_eq_getD_getElem?, hi']
  rw [h1, h2]
  exact he _

/-! ### Parts of values -/

theorem run_isAgg {P : Program} {T : Nat → Option TY} (hT : TOk P T) {t : TypeId} {y : TY} (h : T t = some y) (w : World) : (isAgg t).run P w = .ok (tyAgg y) w := by
  have hu := hT.under h
  unfold isAgg
  rw [Sem.run_bind, run_underlying hu]
  simp only [Result.andThen, tyAgg]
  cases y.desc <;> simp

theorem drop_cons {α : Type} {l : List α} {n : Nat} {v : α} {r : List α} (h : l.drop n = v :: r) (d : α) : n < l.length ∧ l.getD n d = v := by
  have hlt : n < l.length := by
    rcases Nat.lt_or_ge n l.length with h1 | h1
    · exact h1
    · rw [List.drop_eq_nil_of_le h1] at h; cases h
  refine ⟨hlt, ?_⟩
  rw [List.drop_eq_getElem_cons hlt] at h
  cases h
  simp [List.getD_eq_getElem?_getD, hlt]

theorem getD_drop_take {α : Type} (l : List α) (o n i : Nat) (d : α) (h : i < n) : ((l.drop o).take n).getD i d = l.getD (o + i) d := by
  simp only [List.getD_eq_getElem?_getD]
  rw [List.getElem?_take_of_lt h, List.getElem?_drop]

/-- Cells that agree: an aggregate's part. -/
theorem part_ok {P : Program} {T : Nat → Option TY} (hT : TOk P T) {t : TypeId} {y : TY} (ht : T t = some y) {w : World} {Wr : Nat → Prop} {ρ : Nat → Option (Nat × Nat)} {objs : List AObj}
    {cs : List AV} {vs : Array Value} (hl : cs.length = vs.size) (h : ∀ i, i < cs.length → RelV w Wr ρ objs (cs.getD i .undef) (vs.getD i undef)) {off : Nat} {r : AV} (hr : partA y cs off = some r) :
    ∃ v, (part t vs off).run P w = .ok v w ∧ RelV w Wr ρ objs r v := by
  unfold partA at hr
  unfold part
  rw [Sem.run_bind, run_isAgg hT ht]
  simp only [Result.andThen]
  split at hr
  · rename_i hag
    split at hr
    · rename_i hle
      have hle := of_decide_eq_true hle
      cases hr
      rw [hag]
      refine ⟨.agg (vs.extract off (off + y.size)), by simp [hT.sizeOf ht], .agg _ _ (by simp; omega) fun i hi => ?_⟩
      have hi' : i < y.size := by simp at hi; omega
      rw [getD_drop_take _ _ _ _ _ hi']
      have : (vs.extract off (off + y.size)).getD i undef = vs.getD (off + i) undef := by
        simp only [Array.getD_eq_getD_getElem?]
        rw [Array.getElem?_extract_of_lt (by omega)]
        simp [show off + i < vs.size by omega]
      rw [this]
      exact h _ (by omega)
    · cases hr
  · rename_i hag
    split at hr
    · rename_i v rest hd
      cases hr
      rw [hag]
      obtain ⟨hlt, hv⟩ := drop_cons hd .undef
      have hlt' : off < vs.size := by omega
      refine ⟨vs.getD off undef, by simp [hlt', Array.getD_eq_getD_getElem?], ?_⟩
      have := h off hlt
      rwa [hv] at this
    · cases hr

theorem eqCell_ok {P : Program} {T : Nat → Option TY} (hT : TOk P T) {t : TypeId} {y : TY} (ht : T t = some y) {w : World} {Wr : Nat → Prop} {ρ : Nat → Option (Nat × Nat)} {objs : List AObj}
    {a b : AV} {u v : Value} {r : Bool} (d : Nat) (ha : RelV w Wr ρ objs a u) (hb : RelV w Wr ρ objs b v) (h : eqCell y (some a) (some b) = some r) : (Op.equalIn (d + 1) t u v).run P w = .ok r w := by
  have hu := hT.under ht
  unfold eqCell at h
  split at h
  · rename_i h1 h2 h3
    cases h2; cases h3; cases h
    rw [h1] at hu
    rw [relD_bool ha, relD_bool hb]
    exact run_equalIn_bool' w d t _ _ hu
  · rename_i h1 h2 h3
    cases h2; cases h3
    split at h
    · rename_i hk
      cases h
      rw [h1] at hu
      rw [relD_int ha, relD_int hb, ← of_decide_eq_true hk]
      exact run_equalIn_int w d t _ _ _ _ hu
    · cases h
  · rename_i h1 h2 h3
    cases h2; cases h3; cases h
    rw [h1] at hu
    obtain ⟨s, rfl, hs⟩ := relD_str ha
    obtain ⟨s', rfl, hs'⟩ := relD_str hb
    rw [run_equalIn_string w d t _ _ hu, ByteArray.toList_eq, ByteArray.toList_eq, hs, hs']
  · cases h

theorem eqFs_ok {P : Program} {T : Nat → Option TY} (hT : TOk P T) {w : World} {Wr : Nat → Prop} {ρ : Nat → Option (Nat × Nat)} {objs : List AObj} {xs ys : List AV} {us vs : Array Value} (d : Nat)
    (hx : RelV w Wr ρ objs (.agg xs) (.agg us)) (hy : RelV w Wr ρ objs (.agg ys) (.agg vs)) : ∀ (fs : List Field) (r : Bool), eqFs T fs xs ys = some r → (Op.eqFields (d + 1) us vs fs).run P w = .ok r w
  | [], r, h => by cases h; simp [Op.eqFields]
  | f :: fs, r, h => by
    simp only [eqFs] at h
    split at h
    · rename_i y ht hn
      split at h
      · rename_i a b h1 h2
        cases h
        have hn := of_decide_eq_false hn
        cases hx with
        | agg _ _ l1 r1 => cases hy with
          | agg _ _ l2 r2 =>
            generalize hpa : partA y xs f.offset = pa at h1
            generalize hpb : partA y ys f.offset = pb at h1
            cases pa with
            | none => simp [eqCell] at h1
            | some va =>
              cases pb with
              | none => simp [eqCell] at h1
              | some vb =>
                obtain ⟨u, e1, q1⟩ := part_ok hT ht l1 r1 hpa
                obtain ⟨v, e2, q2⟩ := part_ok hT ht l2 r2 hpb
                have e3 := eqCell_ok hT ht d q1 q2 h1
                have ih := eqFs_ok hT d (.agg _ _ l1 r1) (.agg _ _ l2 r2) fs b h2
                simp only [Op.eqFields, ne_eq, hn, not_false_eq_true, if_true, Sem.run_bind, e1, e2, e3, Result.andThen_ok]
                cases a
                · simp
                · simpa using ih
      · cases h
    · cases h

theorem aAggEq_ok {P : Program} {T : Nat → Option TY} {tbl : Tbl} (hT : TOk P T) (hq : TblOk P tbl) {op : BinOp} {r : AV} (t : TypeId) (ox oy : Operand) {w : World} {Wr : Nat → Prop} {ρ : Nat → Option (Nat × Nat)} {objs : List AObj} {xs ys : List AV}
    {u v : Value} (hx : RelV w Wr ρ objs (.agg xs) u) (hy : RelV w Wr ρ objs (.agg ys) v) (h : aAggEq T tbl t op xs ys = some r) :
    ∃ c, ((do eqGuard op t ox oy u v; binOp op t u v : Sem Value)).run P w = .ok c w ∧ RelV w Wr ρ objs r c := by
  unfold aAggEq at h
  split at h
  · rename_i fs sz by' z ht hqt
    obtain ⟨h1, h2⟩ := hq.q t hqt
    have hu := hT.under ht
    simp only at hu
    have hf : P.fieldsOf t = fs := by simp [Program.fieldsOf, hu]
    have hu' : P.underlying t = some (.struct (P.fieldsOf t)) := by rw [hf]; exact hu
    split at h
    · rename_i b hb
      cases hx with
      | agg _ us l1 r1 => cases hy with
        | agg _ vs l2 r2 =>
          have e := eqFs_ok hT 9998 (.agg _ _ l1 r1) (.agg _ _ l2 r2) fs.toList b hb
          have e1 : (Op.equalIn 10000 t (.agg us) (.agg vs)).run P w = .ok b w := by
            rw [run_equalIn_agg w 9999 t us vs hu' h1, hf]
            exact e
          split at h
          · cases h
            refine ⟨.bool b, ?_, .d _ _ (.bool _)⟩
            rw [Sem.run_bind, run_eqGuard_agg w _ t ox oy us vs h2]
            simp only [Result.andThen_ok]
            rw [run_eql_struct, e1]
            rfl
          · cases h
            refine ⟨.bool (!b), ?_, .d _ _ (.bool _)⟩
            rw [Sem.run_bind, run_eqGuard_agg w _ t ox oy us vs h2]
            simp only [Result.andThen_ok]
            rw [run_neq_struct, e1]
            rfl
          · cases h
    · cases h
  · cases h

/-- Cells in memory that agree: what is loaded there. -/
theorem load_ok {P : Program} {T : Nat → Option TY} (hT : TOk P T) {t : TypeId} {y : TY} (ht : T t = some y) {w : World} {Wr : Nat → Prop} {ρ : Nat → Option (Nat × Nat)} {objs : List AObj}
    {cs : List AV} {b o : Nat} {vs : Nat → Value} (hc : ∀ k, k < cs.length → w.cell? ⟨b, o + k, none⟩ = some (vs k)) (h : ∀ k, k < cs.length → RelV w Wr ρ objs (cs.getD k .undef) (vs k))
    {off : Nat} {r : AV} (hr : partA y cs off = some r) : ∃ v, (Instr.loadAt t (.pointer (some ⟨b, o + off, none⟩))).run P w = .ok v w ∧ RelV w Wr ρ objs r v := by
  unfold partA at hr
  have h1 : (Instr.loadAt t (.pointer (some ⟨b, o + off, none⟩))).run P w = (loadVar t ⟨b, o + off, none⟩).run P w := by simp [Instr.loadAt, Instr.sureAddr]
  rw [h1]
  unfold loadVar
  rw [Sem.run_bind, run_isAgg hT ht]
  simp only [Result.andThen]
  split at hr
  · rename_i hag
    split at hr
    · rename_i hle
      have hle := of_decide_eq_true hle
      cases hr
      rw [hag]
      have hld : (loadCells ⟨b, o + off, none⟩ y.size).run P w = .ok ((List.range y.size).map fun j => vs (off + j)).toArray w := by
        refine run_loadCells w _ y.size (fun j => vs (off + j)) fun j hj => ?_
        have : (⟨b, o + off, none⟩ : Addr).add j = ⟨b, o + (off + j), none⟩ := by
          unfold Addr.add
          split
          · rename_i h0; rw [h0]; rfl
          · simp [Nat.add_assoc]
        rw [this]
        exact hc _ (by omega)
      refine ⟨.agg ((List.range y.size).map fun j => vs (off + j)).toArray, by simp [hT.sizeOf ht, hld], .agg _ _ (by simp; omega) fun i hi => ?_⟩
      have hi' : i < y.size := by simp at hi; omega
      rw [getD_drop_take _ _ _ _ _ hi']
      have : ((List.range y.size).map fun j => vs (off + j)).toArray.getD i undef = vs (off + i) := by
        simp [Array.getD_eq_getD_getElem?, hi']
      rw [this]
      exact h _ (by omega)
    · cases hr
  · rename_i hag
    split at hr
    · rename_i v rest hd
      cases hr
      rw [hag]
      obtain ⟨hlt, hv⟩ := drop_cons hd .undef
      refine ⟨vs off, by simp [load, Sem.run, hc off hlt], ?_⟩
      have := h off hlt
      rwa [hv] at this
    · cases hr

theorem partD_some {y : TY} {row : List D} {off : Nat} {r : AV} (h : partD y row off = some r) : ∃ r', partA y (row.map .d) off = some r' ∧
    ∀ {w : World} {Wr : Nat → Prop} {ρ : Nat → Option (Nat × Nat)} {objs : List AObj} {v : Value}, RelV w Wr ρ objs r' v → RelV w Wr ρ objs r v := by
  unfold partD at h
  unfold partA
  split at h
  · rename_i hag
    split at h
    · rename_i hd
      cases h
      refine ⟨.agg (((row.map AV.d).drop off).take y.size), by simp only [List.length_map, hd], fun {w} {Wr} {ρ} {objs} {v} hv => ?_⟩
      cases hv with
      | agg _ vs hl hr =>
        have e1 : ((row.map AV.d).drop off).take y.size = ((row.drop off).take y.size).map .d := by rw [List.map_take, List.map_drop]
        rw [e1] at hl hr
        refine .agg _ vs (by simpa using hl) fun i hi => ?_
        have hi' : i < ((row.drop off).take y.size).length := by simpa using hi
        have h2 := hr i (by rw [List.length_map]; exact hi')
        have e2 : (((row.drop off).take y.size).map AV.d).getD i .undef = .d (((row.drop off).take y.size)[i]) := by simp only [List.getD_eq_getElem?_getD, List.getElem?_map, List.getElem?_eq_getElem hi', Option.map_some, Option.getD_some]
        have e3 : (((row.drop off).take y.size).map liftD).getD i .undef = liftD (((row.drop off).take y.size)[i]) := by simp only [List.getD_eq_getElem?_getD, List.getElem?_map, List.getElem?_eq_getElem hi', Option.map_some, Option.getD_some]
        rw [e2] at h2
        rw [e3]
        generalize vs.getD i undef = u at h2
        cases h2 with
        | d _ _ h => exact RelV.liftD h
    · cases h
  · rename_i hag
    split at h
    · rename_i x l hd
      cases h
      refine ⟨.d x, by simp only [← List.map_drop, hd, List.map_cons], fun {w} {Wr} {ρ} {objs} {v} hv => ?_⟩
      cases hv with
      | d _ _ h => exact RelV.liftD h
    · cases h

theorem rptr_ok {P : Program} {T : Nat → Option TY} (hT : TOk P T) {t : TypeId} {y : TY} (ht : T t = some y) {w : World} {Wr : Nat → Prop} {ρ : Nat → Option (Nat × Nat)} {objs : List AObj}
    {row : List D} {j : Nat} {p : Value} (h : RelV w Wr ρ objs (.rptr row j) p) {r : AV} (hr : partD y row j = some r) : ∃ v, (Instr.loadAt t p).run P w = .ok v w ∧ RelV w Wr ρ objs r v := by
  cases h with
  | rptr _ _ b o vs h0 hb hc hd =>
    obtain ⟨r', hr', hlift⟩ := partD_some hr
    obtain ⟨u, hu1, hu2⟩ : ∃ v, (Instr.loadAt t _).run P w = .ok v w ∧ RelV w Wr ρ objs r' v := load_ok hT ht (by simpa using hc) (fun k hk => by
      have hk' : k < row.length := by simpa using hk
      have : (row.map AV.d).getD k .undef = .d (row.getD k .nilp) := by simp [List.getD_eq_getElem?_getD, hk']
      rw [this]
      exact .d _ _ (hd k hk')) hr'
    exact ⟨u, hu1, hlift hu2⟩

/-- An object's row in memory. -/
theorem row_ok {F : Fr} {ρ : Nat → Option (Nat × Nat)} {objs : List AObj} {w : World} (h : RelH F ρ objs w) {id : Nat} {o : AObj} (ho : objs[id]? = some o) {b δ : Nat} (hρ : ρ id = some (b, δ)) {i : Nat} (hi : i < o.rows.length) :
    (o.rows.getD i []).length = o.sz ∧ ∃ vs : Nat → Value, (∀ k, k < o.sz → w.cell? ⟨b, δ + (i * o.sz + k), none⟩ = some (vs k)) ∧ ∀ k, k < o.sz → RelV w (Wrt F ρ objs) ρ objs ((o.rows.getD i []).getD k .undef) (vs k) := by
  obtain ⟨h1, h2⟩ := h.ob id o ho
  rw [hρ] at h2
  obtain ⟨c, e, f, g1, g2, g3, g4⟩ := LiesAt.cells h2 (by cases o <;> first | rfl | (simp [AObj.rows] at hi))
  have hmem : o.rows.getD i [] ∈ o.rows := by simp [List.getD_eq_getElem?_getD, hi]
  refine ⟨h1 _ hmem, fun k => c.getD (δ + (i * o.sz + k)) undef, fun k hk => cell_of_heap g1 ?_, fun k hk => g4 i k hi hk⟩
  have : i * o.sz + o.sz ≤ o.rows.length * o.sz := by
    have := Nat.mul_le_mul_right o.sz (show i + 1 ≤ o.rows.length by omega)
    rwa [Nat.add_mul, Nat.one_mul] at this
  omega

theorem fieldOf_spec {P : Program} {T : Nat → Option TY} (hT : TOk P T) {t f off : Nat} {y : TY} (h : fieldOf T t f = some (off, y)) :
    ∃ fs fd, P.underlying t = some (.struct fs) ∧ fs[f]? = some fd ∧ fd.offset = off ∧ T fd.type = some y := by
  unfold fieldOf at h
  split at h
  · rename_i fs _ _ _ ht
    split at h
    · rename_i fd hfd
      split at h
      · rename_i y' hy
        cases h
        exact ⟨fs, fd, hT.under ht, hfd, rfl, hy⟩
      · cases h
    · cases h
  · cases h

theorem elemT_spec {P : Program} {T : Nat → Option TY} (hT : TOk P T) {t : Nat} {y : TY} (h : elemT T t = some y) : ∃ e, P.underlying t = some (.slice e) ∧ T e = some y := by
  unfold elemT at h
  split at h
  · rename_i e _ _ _ ht
    exact ⟨e, hT.under ht, h⟩
  · cases h

theorem arrT_spec {P : Program} {T : Nat → Option TY} (hT : TOk P T) {t n : Nat} {y : TY} (h : arrT T t = some (n, y)) : ∃ e, P.underlying t = some (.array n e) ∧ T e = some y := by
  unfold arrT at h
  split at h
  · rename_i n e _ _ _ ht
    split at h
    · rename_i y' hy
      cases h
      exact ⟨e, hT.under ht, hy⟩
    · cases h
  · cases h

theorem add_place (b o n : Nat) : (⟨b, o, none⟩ : Addr).add n = ⟨b, o + n, none⟩ := by
  unfold Addr.add
  split
  · rename_i h0; rw [h0]; rfl
  · rfl

/-! ### The operations, one by one -/

section
variable {P : Program} {T : Nat → Option TY} (hT : TOk P T) {w : World} {F : Fr} {ρ : Nat → Option (Nat × Nat)} {objs : List AObj}


include hT in
theorem conv_ok {src dst : TypeId} {x r : AV} {v : Value} (h : (RelV w (Wrt F ρ objs) ρ objs) x v) (hr : convA T src dst x = some r) : ∃ u, (convert src dst v).run P w = .ok u w ∧ (RelV w (Wrt F ρ objs) ρ objs) r u := by
  unfold convA at hr
  split at hr
  · rename_i ys yd h1 h2
    have u1 := hT.under h1
    have u2 := hT.under h2
    split at hr
    · rename_i k0 k k' n e1 e2
      cases hr
      obtain rfl := relD_int h
      rw [e1] at u1; rw [e2] at u2
      exact ⟨.int k (k.wrap n), by simp [convert, run_underlying u1, run_underlying u2, Conv.intToInt], .d _ _ (.int _ _)⟩
    · rename_i l e1 e2
      cases hr
      obtain ⟨s, rfl, hs⟩ := relD_str h
      rw [e1] at u1; rw [e2] at u2
      exact ⟨.string s, by simp [convert, run_underlying u1, run_underlying u2], .d _ _ (.str _ _ hs)⟩
    · cases hr
  · cases hr

include hT in
theorem elem_ok (hp : RelH F ρ objs w) {t : TypeId} {x r : AV} {v : Value} {k : IntKind} {n : Int} (h : (RelV w (Wrt F ρ objs) ρ objs) x v) (hr : elemA T t x n objs = some r) : ∃ u, (Instr.indexAt t v (.int k n)).run P w = .ok u w ∧ (RelV w (Wrt F ρ objs) ρ objs) r u := by
  unfold elemA at hr
  split at hr
  · rename_i rows
    split at hr
    · rename_i y hy
      obtain ⟨⟨⟨h0, h1⟩, h2⟩, rfl⟩ := ite_some hr
      obtain ⟨e, hu, hte⟩ := elemT_spec hT hy
      cases h with
      | d _ _ h =>
        cases h with
        | sl0 p cap => simp at h1; omega
        | sl rows b off sz cap vs hne hs0 hb hsz hc hd hcap =>
          have hmem : rows.getD n.toNat [] ∈ rows := by
            have : n.toNat < rows.length := by omega
            simp [List.getD_eq_getElem?_getD, this]
          have hlen := hsz _ hmem
          have hsy : y.size = sz := by omega
          refine ⟨.pointer (some ⟨b, off + n.toNat * sz, none⟩), ?_, ?_⟩
          · simp [Instr.indexAt, run_underlying hu, asIntOf, h0, h1, hT.sizeOf hte, add_place, hsy]
          · have := RelV.rptr (w := w) (Wr := Wrt F ρ objs) (ρ := ρ) (objs := objs) (rows.getD n.toNat []) 0 b (off + n.toNat * sz) (fun k => vs n.toNat k) (by omega) hb
              (fun k hk => by rw [Nat.add_assoc]; exact hc n.toNat k (by omega) (by omega)) (fun k hk => hd n.toNat k (by omega) (by omega))
            simpa using this
    · cases hr
  · rename_i id off len gen
    split at hr
    · rename_i y o hy ho
      obtain ⟨⟨⟨hg, hs⟩, h0, h1⟩, rfl⟩ := ite_some hr
      obtain ⟨e, hu, hte⟩ := elemT_spec hT hy
      cases h with
      | win _ _ _ _ _ o' ho' hge hs' hwin =>
        rw [ho] at ho'; cases ho'
        obtain ⟨hfit, p, cap, rfl, hcap, hpl⟩ := hwin hg
        rcases hpl with hz | ⟨b, δ, c, ee, f, hρ, rfl, hb, hle⟩
        · omega
        · refine ⟨.pointer (some ⟨b, δ + off * o.sz + n.toNat * o.sz, none⟩), ?_, .ptr _ _ _ _ _ o ho hge ⟨_, rfl⟩ fun _ => ⟨b, δ, hρ, ?_⟩⟩
          · simp [Instr.indexAt, run_underlying hu, asIntOf, h0, h1, hT.sizeOf hte, add_place, hs]
          · congr 3
            rw [Nat.add_mul]; omega
    · cases hr
  · rename_i id gen row col
    split at hr
    · rename_i len y hy
      obtain ⟨e, hu, hte⟩ := arrT_spec hT hy
      cases h with
      | ptr _ _ _ _ v o ho hge hs hptr =>
        obtain ⟨pa, rfl⟩ := hs
        split at hr
        · rename_i rs sz g ho2
          obtain ⟨⟨⟨h0, h1⟩, hgg, hsz, hys⟩, rfl⟩ := ite_some hr
          rw [ho] at ho2; cases ho2
          refine ⟨.pointer (some (pa.add (n.toNat * y.size))), ?_, .ptr _ _ _ _ _ _ ho hge ⟨_, rfl⟩ fun hg => ?_⟩
          · simp [Instr.indexAt, run_underlying hu, asIntOf, h0, h1, hT.sizeOf hte, Instr.sureAddr]
          · obtain ⟨b, δ, hρ, hv⟩ := hptr hg
            cases hv
            refine ⟨b, δ, hρ, ?_⟩
            rw [add_place]
            simp only [AObj.sz, hsz, hys]
            congr 3; omega
        · obtain ⟨⟨h0, h1⟩, rfl⟩ := ite_some hr
          refine ⟨.pointer (some (pa.add (n.toNat * y.size))), ?_, .ptr _ _ _ _ _ o ho hge ⟨_, rfl⟩ fun hg => ?_⟩
          · simp [Instr.indexAt, run_underlying hu, asIntOf, h0, h1, hT.sizeOf hte, Instr.sureAddr]
          · obtain ⟨b, δ, hρ, hv⟩ := hptr hg
            cases hv
            refine ⟨b, δ, hρ, ?_⟩
            rw [add_place]
            congr 3; omega
        · cases hr
        · cases hr
        · cases hr
    · cases hr
  · rename_i row j
    split at hr
    · rename_i len y hy
      obtain ⟨⟨h0, h1⟩, rfl⟩ := ite_some hr
      obtain ⟨e, hu, hte⟩ := arrT_spec hT hy
      cases h with
      | rptr _ _ b o vs hr0 hb hc hd =>
        refine ⟨.pointer (some ⟨b, o + (j + n.toNat * y.size), none⟩), ?_, .rptr _ _ b o vs hr0 hb hc hd⟩
        simp [Instr.indexAt, run_underlying hu, asIntOf, h0, h1, hT.sizeOf hte, add_place, Instr.sureAddr, Nat.add_assoc]
    · cases hr
  · cases hr
end

section
variable {P : Program} {T : Nat → Option TY} (hT : TOk P T) {w : World} {F : Fr} {ρ : Nat → Option (Nat × Nat)} {objs : List AObj}


include hT in
theorem fieldAt_ok {t f : Nat} {x r : AV} {v : Value} (h : (RelV w (Wrt F ρ objs) ρ objs) x v) {off : Nat} {y : TY} (hf : fieldOf T t f = some (off, y))
    (hr : fieldPtr x off y = some r) :
    ∃ u, (Instr.fieldAt t v f).run P w = .ok u w ∧ (RelV w (Wrt F ρ objs) ρ objs) r u := by
  obtain ⟨fs, fd, hu, hfd, rfl, hty⟩ := fieldOf_spec hT hf
  unfold fieldPtr at hr
  split at hr
  · rename_i id gen row col
    obtain ⟨hz, rfl⟩ := ite_none hr
    cases h with
    | ptr _ _ _ _ v o ho hge hs hptr =>
      obtain ⟨pa, rfl⟩ := hs
      refine ⟨.pointer (some (pa.add fd.offset)), ?_, .ptr _ _ _ _ _ o ho hge ⟨_, rfl⟩ fun hg => ?_⟩
      · simp [Instr.fieldAt, run_underlying hu, hfd, Instr.sureAddr, fieldPlace, hT.sizeOf hty, hz]
      · obtain ⟨b, δ, hρ, hv⟩ := hptr hg
        cases hv
        refine ⟨b, δ, hρ, ?_⟩
        rw [add_place]
        congr 3; omega
  · rename_i row j
    obtain ⟨hz, rfl⟩ := ite_none hr
    cases h with
    | rptr _ _ b o vs hr0 hb hc hd =>
      refine ⟨.pointer (some ⟨b, o + (j + fd.offset), none⟩), ?_, .rptr _ _ b o vs hr0 hb hc hd⟩
      simp [Instr.fieldAt, run_underlying hu, hfd, Instr.sureAddr, fieldPlace, hT.sizeOf hty, hz, add_place, Nat.add_assoc]
  · cases hr

include hT in
theorem loadA_ok (hp : RelH F ρ objs w) {t : Nat} {y : TY} (ht : T t = some y) {x r : AV} {v : Value} (h : (RelV w (Wrt F ρ objs) ρ objs) x v) (hr : loadA y x objs = some r) : ∃ u, (Instr.loadAt t v).run P w = .ok u w ∧ (RelV w (Wrt F ρ objs) ρ objs) r u := by
  unfold loadA at hr
  split at hr
  · rename_i id gen row col
    have key : ∀ (r : AV) (row col : Nat) (o : AObj), (RelV w (Wrt F ρ objs) ρ objs) (.ptr id gen row col) v → objs[id]? = some o → gen = o.gen → row < o.rows.length → partA y (o.rows.getD row []) col = some r → ∃ u, (Instr.loadAt t v).run P w = .ok u w ∧ (RelV w (Wrt F ρ objs) ρ objs) r u := by
      intro r row col o h ho hg hrow hr
      cases h with
      | ptr _ _ _ _ v o' ho' hge hs hptr =>
        rw [ho] at ho'; cases ho'
        obtain ⟨b, δ, hρ, rfl⟩ := hptr hg
        obtain ⟨hl, vs, h1, h2⟩ := row_ok hp ho hρ hrow
        have := load_ok hT ht (b := b) (o := δ + row * o.sz) (vs := vs) (by rw [hl]; intro k hk; rw [Nat.add_assoc]; exact h1 k hk) (by rw [hl]; exact h2) hr
        rwa [Nat.add_assoc] at this
    split at hr
    · rename_i cells g ho
      split at hr
      · rename_i hg
        exact key _ _ _ _ h ho (of_decide_eq_true hg) (by simp [AObj.rows]) (by simpa [AObj.rows] using hr)
      · cases hr
    · rename_i rs n g ho
      split at hr
      · rename_i hn
        obtain rfl := of_decide_eq_true hn
        have h' : (RelV w (Wrt F ρ objs) ρ objs) (.ptr id gen (row + col) 0) v := by
          cases h with
          | ptr _ _ _ _ v o' ho' hge hs hptr =>
            rw [ho] at ho'; cases ho'
            refine .ptr _ _ _ _ _ _ ho hge hs fun hg => ?_
            obtain ⟨b, δ, hρ, hv⟩ := hptr hg
            exact ⟨b, δ, hρ, by rw [hv]; simp [AObj.sz]⟩
        clear h
        revert h' hr
        generalize row + col = row
        intro hr h
        split at hr
        rotate_left
        · rename_i hag
          split at hr
          · rename_i hh
            obtain ⟨hg, hrow⟩ := hh
            obtain ⟨r', hr', hlift⟩ := partD_some hr
            obtain ⟨u, hu1, hu2⟩ := key r' row 0 _ h ho hg (by simpa [AObj.rows] using hrow) (by
              have : (AObj.arr rs 1 g).rows.getD row [] = (rs.getD row []).map .d := by simp [AObj.rows, List.getD_eq_getElem?_getD, hrow]
              rw [this]; exact hr')
            exact ⟨u, hu1, hlift hu2⟩
          · cases hr
        rename_i hag
        obtain ⟨⟨hg, hle⟩, rfl⟩ := ite_some hr
        cases h with
        | ptr _ _ _ _ v o' ho' hge hs hptr =>
          rw [ho] at ho'; cases ho'
          obtain ⟨b, δ, hρ, rfl⟩ := hptr hg
          obtain ⟨hrw, hlies⟩ := hp.ob id _ ho
          rw [hρ] at hlies
          obtain ⟨c, e, f, k1, k2, k3, k4⟩ := hlies
          simp only [AObj.rows, AObj.sz, List.length_map, Nat.mul_one] at k3
          have ea : (⟨b, δ + (row * (AObj.arr rs 1 g).sz + 0), none⟩ : Addr) = ⟨b, δ + row, none⟩ := by simp [AObj.sz]
          rw [ea]
          have hld : (loadCells ⟨b, δ + row, none⟩ y.size).run P w = .ok ((List.range y.size).map fun j => c.getD (δ + row + j) undef).toArray w := by
            refine run_loadCells w _ y.size (fun j => c.getD (δ + row + j) undef) fun j hj => ?_
            rw [add_place]
            exact cell_of_heap k1 (by omega)
          have h1 : (Instr.loadAt t (.pointer (some ⟨b, δ + row, none⟩))).run P w = (loadVar t ⟨b, δ + row, none⟩).run P w := by simp [Instr.loadAt, Instr.sureAddr]
          refine ⟨.agg ((List.range y.size).map fun j => c.getD (δ + row + j) undef).toArray, ?_, .ar _ _ (by simp; omega) fun i hi => ?_⟩
          · rw [h1]
            unfold loadVar
            rw [Sem.run_bind, run_isAgg hT ht]
            simp only [Result.andThen, hag]
            simp [hT.sizeOf ht, hld]
          · have hi' : i < y.size := by simp at hi; omega
            have hir : row + i < rs.length := by omega
            have e2 : (((rs.drop row).take y.size).map fun r => r.getD 0 .nilp).getD i .nilp = rcell rs (row + i) 0 := by
              simp only [rcell, List.getD_eq_getElem?_getD, List.getElem?_map, List.getElem?_take_of_lt hi', List.getElem?_drop, List.getElem?_eq_getElem hir]
              rfl
            have e3 : ((List.range y.size).map fun j => c.getD (δ + row + j) undef).toArray.getD i undef = c.getD (δ + row + i) undef := by
              simp [Array.getD_eq_getD_getElem?, hi']
            rw [e2, e3]
            have hrl : (rs.getD (row + i) []).length = 1 := by
              have := hrw ((rs.getD (row + i) []).map .d) (by simp only [AObj.rows]; exact List.mem_map.2 ⟨_, by simp [List.getD_eq_getElem?_getD, hir], rfl⟩)
              simpa [AObj.sz] using this
            have k5 := k4 (row + i) 0 (by simpa [AObj.rows] using hir) (by simp [AObj.sz])
            have e4 : acell (AObj.arr rs 1 g).rows (row + i) 0 = .d (rcell rs (row + i) 0) := by
              unfold acell rcell
              have e5 : (AObj.arr rs 1 g).rows.getD (row + i) [] = (rs.getD (row + i) []).map .d := by simp [AObj.rows, List.getD_eq_getElem?_getD, hir]
              rw [e5]
              simp [List.getD_eq_getElem?_getD, List.getElem?_map]
              have h0 : 0 < (rs[row + i]?.getD []).length := by simpa [List.getD_eq_getElem?_getD] using (show 0 < (rs.getD (row + i) []).length by omega)
              rw [List.getElem?_eq_getElem h0]
              rfl
            rw [e4] at k5
            have e6 : δ + ((row + i) * (AObj.arr rs 1 g).sz + 0) = δ + row + i := by simp only [AObj.sz]; omega
            rw [e6] at k5
            cases k5 with
            | d _ _ h => exact h
      · split at hr
        · rename_i hh
          obtain ⟨hg, hrow⟩ := hh
          obtain ⟨r', hr', hlift⟩ := partD_some hr
          obtain ⟨u, hu1, hu2⟩ := key r' _ _ _ h ho hg (by simpa [AObj.rows] using hrow) (by
            have : (AObj.arr rs n g).rows.getD row [] = (rs.getD row []).map .d := by simp [AObj.rows, List.getD_eq_getElem?_getD, hrow]
            rw [this]; exact hr')
          exact ⟨u, hu1, hlift hu2⟩
        · cases hr
    · cases hr
    · rename_i cells n g ho
      split at hr
      · rename_i hc
        exact key _ _ _ _ h ho hc.1 hc.2 hr
      · cases hr
    · cases hr
  · exact rptr_ok hT ht h hr
  · cases hr

theorem bound_ok {x : Option Operand} {e : Env} {ce : Operand → Value} (he : ∀ x, (RelV w (Wrt F ρ objs) ρ objs) (e x) (ce x)) {d l : Int} (hb : boundA e d x = some l) :
    (x = none ∧ l = d) ∨ ∃ o k, x = some o ∧ ce o = .int k l := by
  unfold boundA at hb
  split at hb
  · exact .inl ⟨rfl, (Option.some.inj hb).symm⟩
  · rename_i o
    split at hb
    · rename_i k n ho
      cases hb
      have := he o
      rw [ho] at this
      exact .inr ⟨o, k, rfl, relD_int this⟩
    · cases hb

/-- The bounds of a slice expression, as the machine reads them. -/
theorem bounds_run {isSlice : Bool} {len cap : Nat} {lo hi : Option Value} {l h : Int} (hlo : (lo = none ∧ l = 0) ∨ ∃ k, lo = some (.int k l)) (hhi : (hi = none ∧ h = len) ∨ ∃ k, hi = some (.int k h))
    (h0 : 0 ≤ l) (h1 : l ≤ h) (h2 : h ≤ cap) : (Instr.sliceBounds isSlice len cap lo hi none).run P w = .ok (l.toNat, h.toNat, cap) w := by
  rcases hlo with ⟨rfl, rfl⟩ | ⟨k, rfl⟩ <;> rcases hhi with ⟨rfl, rfl⟩ | ⟨k', rfl⟩
  · simp [Instr.sliceBounds]
  · simp [Instr.sliceBounds, Instr.sliceBound, asIntOf, h2, show (0 : Int) ≤ h by omega]
  · simp [Instr.sliceBounds, Instr.sliceBound, asIntOf, h0, h1]
  · have h3 : l ≤ max h 0 := by omega
    simp [Instr.sliceBounds, Instr.sliceBound, asIntOf, h0, h2, h3, show (0 : Int) ≤ h by omega]

theorem rows_part (rows : List (List D)) (lo hi : Nat) (h : hi ≤ rows.length) : ((rows.take hi).drop lo).length = hi - lo := by
  simp; omega

include hT in
theorem slice_ok {t : Nat} {x r : AV} {v : Value} {lo hi : Option Value} {l h n : Int} (hx : (RelV w (Wrt F ρ objs) ρ objs) x v) (hn : lenA x = some n) (hlo : (lo = none ∧ l = 0) ∨ ∃ k, lo = some (.int k l)) (hhi : (hi = none ∧ h = n) ∨ ∃ k, hi = some (.int k h))
    (hr : sliceA T t x l h objs = some r) : ∃ u, (Instr.sliceAt t v lo hi none).run P w = .ok u w ∧ (RelV w (Wrt F ρ objs) ρ objs) r u := by
  unfold sliceA at hr
  split at hr
  · rename_i rows
    simp only [lenA, Option.some.injEq] at hn
    subst hn
    split at hr
    · rename_i y hy
      obtain ⟨⟨⟨h0, h1, h2⟩, h3⟩, rfl⟩ := ite_some hr
      obtain ⟨e, hu, hte⟩ := elemT_spec hT hy
      cases hx with
      | d _ _ hx =>
        cases hx with
        | sl0 p cap =>
          have hb := bounds_run (P := P) (w := w) (isSlice := true) (len := 0) (cap := cap) hlo hhi h0 h1 (by simp at h2; omega)
          have hh : h.toNat = 0 := by simp at h2; omega
          have hl : l.toNat = 0 := by omega
          refine ⟨.slice (if cap = l.toNat then p else p.map (·.add (l.toNat * y.size))) (h.toNat - l.toNat) (cap - l.toNat), ?_, ?_⟩
          · simp [Instr.sliceAt, Instr.slice, run_underlying hu, hb, hT.sizeOf hte]
          · rw [hh, hl]
            simp only [List.take_nil, List.drop_nil]
            exact .d _ _ (.sl0 _ _)
        | sl rows b off sz cap vs hne hs0 hbw hsz hc hd hcap =>
          have hb := bounds_run (P := P) (w := w) (isSlice := true) (len := rows.length) (cap := cap) hlo hhi h0 h1 (by omega)
          have hsy : y.size = sz := by
            rcases h3 with h3 | h3
            · exact absurd h3 hne
            · have hr0 : 0 < rows.length := List.length_pos_iff.2 hne
              have hmem : rows.getD 0 [] ∈ rows := by simp [List.getD_eq_getElem?_getD, hr0]
              rw [← h3]; exact hsz _ hmem
          refine ⟨.slice (if cap = l.toNat then some ⟨b, off, none⟩ else some ⟨b, off + l.toNat * sz, none⟩) (h.toNat - l.toNat) (cap - l.toNat), ?_, ?_⟩
          · simp [Instr.sliceAt, Instr.slice, run_underlying hu, hb, hT.sizeOf hte, hsy, add_place]
          · have hlen := rows_part rows l.toNat h.toNat (by omega)
            by_cases hz : h.toNat - l.toNat = 0
            · have : (rows.take h.toNat).drop l.toNat = [] := List.eq_nil_of_length_eq_zero (by rw [hlen, hz])
              rw [this, hz]
              exact .d _ _ (.sl0 _ _)
            · rw [if_neg (by omega)]
              have hgd : ∀ i, i < h.toNat - l.toNat → ((rows.take h.toNat).drop l.toNat).getD i [] = rows.getD (l.toNat + i) [] := by
                intro i hi'
                simp only [List.getD_eq_getElem?_getD, List.getElem?_drop]
                rw [List.getElem?_take_of_lt (by omega)]
              have := RelD.sl (w := w) (Wr := Wrt F ρ objs) ((rows.take h.toNat).drop l.toNat) b (off + l.toNat * sz) sz (cap - l.toNat) (fun i j => vs (l.toNat + i) j)
                (by intro h4; rw [h4] at hlen; simp at hlen; omega) hs0 hbw (fun r hr' => hsz r (List.mem_of_mem_take (List.mem_of_mem_drop hr')))
                (fun i j hi' hj => by
                  rw [hlen] at hi'
                  have := hc (l.toNat + i) j (by omega) hj
                  rw [← this]
                  congr 2
                  rw [Nat.add_mul]; omega)
                (fun i j hi' hj => by
                  rw [hlen] at hi'
                  have := hd (l.toNat + i) j (by omega) hj
                  unfold rcell at this ⊢
                  rw [hgd i hi']; exact this)
                (by rw [hlen]; omega)
              rw [hlen] at this
              exact .d _ _ this
    · cases hr
  · rename_i s
    simp only [lenA, Option.some.injEq] at hn
    subst hn
    split at hr
    · rename_i hty
      obtain ⟨⟨h0, h1, h2⟩, rfl⟩ := ite_some hr
      obtain ⟨s', rfl, hs⟩ := relD_str hx
      have hsz : s'.size = s.length := by rw [← hs]; rfl
      have hu := hT.under hty
      simp only at hu
      have hb := bounds_run (P := P) (w := w) (isSlice := false) (len := s'.size) (cap := s'.size) hlo (by rw [hsz]; exact hhi) h0 h1 (by omega)
      refine ⟨.string (s'.extract l.toNat h.toNat), ?_, .d _ _ (.str _ _ ?_)⟩
      · simp [Instr.sliceAt, Instr.slice, run_underlying hu, hb]
      · rw [← hs]
        simp [ByteArray.data_extract, Array.toList_extract]
        apply List.ext_getElem?
        intro i
        simp only [List.getElem?_take, List.getElem?_drop]
        split
        · rw [if_pos (by omega)]
        · split
          · omega
          · rfl
    · cases hr
  · rename_i id off len gen
    simp only [lenA, Option.some.injEq] at hn
    subst hn
    split at hr
    · rename_i y o hy ho
      obtain ⟨⟨⟨hg, hs, hgl⟩, h0, h1, h2⟩, rfl⟩ := ite_some hr
      obtain ⟨e, hu, hte⟩ := elemT_spec hT hy
      cases hx with
      | win _ _ _ _ _ o' ho' hge hs' hwin =>
        rw [ho] at ho'; cases ho'
        obtain ⟨hfit, p, cap, rfl, hcap, hpl⟩ := hwin hg
        have hhc : h ≤ cap := by
          rcases hgl with h3 | h3
          · have := hcap.2.resolve_left (by omega); omega
          · have := hcap.1; omega
        have hb := bounds_run (P := P) (w := w) (isSlice := true) (len := len) (cap := cap) hlo hhi h0 h1 (by omega)
        refine ⟨.slice (if cap = l.toNat then p else p.map (·.add (l.toNat * y.size))) (h.toNat - l.toNat) (cap - l.toNat), ?_, .win _ _ _ _ _ o ho hge ⟨_, _, rfl⟩ fun _ => ⟨by omega, _, _, rfl, ⟨by omega, hcap.2.imp (fun h => h) fun _ => by omega⟩, ?_⟩⟩
        · simp [Instr.sliceAt, Instr.slice, run_underlying hu, hb, hT.sizeOf hte]
        · by_cases hcl : cap = l.toNat
          · exact .inl (by omega)
          · rcases hpl with hz | ⟨b, δ, c, ee, f, hρ, rfl, hbb, hle⟩
            · omega
            · refine .inr ⟨b, δ, c, ee, f, hρ, ?_, hbb, ?_⟩
              · rw [if_neg hcl]
                simp only [Option.map_some, add_place]
                congr 2
                rw [hs, Nat.add_mul]; omega
              · have : off + l.toNat + (cap - l.toNat) = off + cap := by omega
                rw [this]; exact hle
    · cases hr
  · simp only [lenA, Option.some.injEq] at hn
    subst hn
    split at hr
    · rename_i y hy
      obtain ⟨⟨h0, h1, h2⟩, rfl⟩ := ite_some hr
      obtain ⟨e, hu, hte⟩ := elemT_spec hT hy
      cases hx with
      | nils =>
        have hb := bounds_run (P := P) (w := w) (isSlice := true) (len := 0) (cap := 0) hlo hhi h0 h1 (by omega)
        have hh : h.toNat = 0 := by omega
        have hl : l.toNat = 0 := by omega
        refine ⟨.slice none 0 0, ?_, .nils⟩
        simp [Instr.sliceAt, Instr.slice, run_underlying hu, hb, hT.sizeOf hte, hh, hl]
    · cases hr
  · cases hr
end

section
variable {P : Program} {T : Nat → Option TY} (hT : TOk P T) {w : World} {F : Fr} {ρ : Nat → Option (Nat × Nat)} {objs : List AObj}
include hT in
/-- A slice of an array variable. -/
theorem sliceP_ok (hp : RelH F ρ objs w) {t : Nat} {x : Operand} {lo hi : Option Operand} {r : AV} {e : Env} {ce : Operand → Value} (he : ∀ x, RelV w (Wrt F ρ objs) ρ objs (e x) (ce x)) (hr : sliceP T t (e x) lo hi e objs = some r) :
    ∃ u, (Instr.sliceAt t (ce x) (lo.map ce) (hi.map ce) none).run P w = .ok u w ∧ RelV w (Wrt F ρ objs) ρ objs r u := by
  have hx := he x
  unfold sliceP at hr
  split at hr
  · rename_i id gen row col n y hex hty
    rw [hex] at hx
    split at hr
    · rename_i l h rs sz g hlo hhi ho
      obtain ⟨⟨⟨⟨hg, hsz, hys⟩, hg0, hn⟩, h0, h1, h2⟩, rfl⟩ := ite_some hr
      obtain ⟨el, hu, hte⟩ := arrT_spec hT hty
      have b1 := bound_ok (F := F) (ρ := ρ) (objs := objs) (w := w) he hlo
      have b2 := bound_ok (F := F) (ρ := ρ) (objs := objs) (w := w) he hhi
      subst hsz
      generalize hcx : ce x = cx at hx
      cases hx with
      | ptr _ _ _ _ _ o' ho' hge hs hptr =>
        rw [ho] at ho'; cases ho'
        obtain ⟨b, δ, hρ, rfl⟩ := hptr hg
        obtain ⟨_, hlies⟩ := hp.ob id _ ho
        rw [hρ] at hlies
        obtain ⟨c, ee, f, k1, k2, k3, k4⟩ := hlies
        simp only [AObj.rows, AObj.sz, List.length_map, Nat.mul_one] at k3
        have hb := bounds_run (P := P) (w := w) (isSlice := false) (len := n) (cap := n) (lo := lo.map ce) (hi := hi.map ce) (l := l) (h := h) (by
          rcases b1 with ⟨rfl, rfl⟩ | ⟨o, k, rfl, ho⟩
          · exact .inl ⟨rfl, rfl⟩
          · exact .inr ⟨k, by simp [ho]⟩) (by
          rcases b2 with ⟨rfl, rfl⟩ | ⟨o, k, rfl, ho⟩
          · exact .inl ⟨rfl, rfl⟩
          · exact .inr ⟨k, by simp [ho]⟩) h0 h1 h2
        refine ⟨.slice (some (if n = l.toNat then ⟨b, δ + (row * 1 + col), none⟩ else (⟨b, δ + (row * 1 + col), none⟩ : Addr).add (l.toNat * y.size))) (h.toNat - l.toNat) (n - l.toNat), ?_, .win _ _ _ _ _ _ ho hge ⟨_, _, rfl⟩ fun _ => ⟨by simp [AObj.rows]; omega, _, _, rfl, ⟨by omega, .inl hg0⟩, ?_⟩⟩
        · simp [Instr.sliceAt, run_underlying hu, Instr.sureAddr, hb, hT.sizeOf hte, AObj.sz]
        · by_cases hz : n = l.toNat
          · exact .inl (by omega)
          · refine .inr ⟨b, δ, c, ee, f, hρ, ?_, k1, by simp only [AObj.sz]; omega⟩
            rw [if_neg hz, add_place]
            simp only [AObj.sz, hys]
            first | done | (congr 2; done) | (congr 2; omega)
    · cases hr
  · cases hr
end

theorem two_of_map {α β : Type} {f : α → β} {l : List α} {x y : β} (h : l.map f = [x, y]) : ∃ a b, l = [a, b] ∧ f a = x ∧ f b = y := by
  match l, h with
  | [a, b], h => simp at h; exact ⟨a, b, rfl, h.1, h.2⟩

theorem aVal_ok {P : Program} {T : Nat → Option TY} {tbl : Tbl} (hT : TOk P T) (ht : TblOk P tbl) {Fe : Fence} {n : Nat} (hFe : Wide Fe)
    {F : Fr} {ρ : Nat → Option (Nat × Nat)} {σ : AS} {a : Act} {w : World} (h : Rel F ρ σ a w) {o : Oper} (hd : ∀ t, o.dst = some t → t < F.nt) {v : AV}
    (hv : aVal T tbl o.op σ.eval σ.objs = some v) : OpOk P Fe n F o (σ.puto o.dst v) a w := by
  have he : ∀ x, RelV w (Wrt F ρ σ.objs) ρ σ.objs (σ.eval x) (a.eval x) := eval_ok h
  cases hop : o.op <;> rw [hop] at hv <;> simp only [aVal] at hv <;> first | (cases hv; done) | skip
  case move x =>
    cases hv
    exact opOk_value hFe h hd (by simp [hop]) (cv := a.eval x) (by simp [execOp, hop]) (he x)
  case assign x =>
    cases hv
    exact opOk_value hFe h hd (by simp [hop]) (cv := a.eval x) (by simp [execOp, hop]) (he x)
  case pick c x y =>
    split at hv
    · rename_i t hc
      cases hv
      have hc' := he c
      rw [hc] at hc'
      have hc2 := relD_bool hc'
      refine opOk_value hFe h hd (by simp [hop]) (cv := if t = true then a.eval x else a.eval y) ?_ ?_
      · simp [execOp, hop, hc2, asBool]
      · split
        · exact he x
        · exact he y
    · cases hv
  case binOp op t x y yt =>
    have key : ∃ cv, ((do eqGuard op t x y (a.eval x) (a.eval y); binOp op t (a.eval x) (a.eval y) : Sem Value)).run P w = .ok cv w ∧ RelV w (Wrt F ρ σ.objs) ρ σ.objs v cv := by
      split at hv
      · rename_i b1 b2 h1 h2
        have e1 := he x; rw [h1] at e1
        have e2 := he y; rw [h2] at e2
        rw [relD_bool e1, relD_bool e2]
        exact aBoolEq_ok hT t x y hv
      · rename_i id gen row col h1 h2
        have e1 := he x; rw [h1] at e1
        have e2 := he y; rw [h2] at e2
        obtain ⟨q, e3⟩ := relV_ptr e1
        rw [e3, relD_nilp e2]
        exact aNil_ok hT t x y (.inr ⟨rfl, rfl, rfl⟩) hv
      · rename_i id gen row col h1 h2
        have e1 := he x; rw [h1] at e1
        have e2 := he y; rw [h2] at e2
        obtain ⟨q, e3⟩ := relV_ptr e2
        rw [e3, relD_nilp e1]
        exact aNil_ok hT t x y (.inl ⟨rfl, rfl⟩) hv
      · rename_i h1 h2
        have e1 := he x; rw [h1] at e1
        have e2 := he y; rw [h2] at e2
        rw [relD_nilp e1, relD_nilp e2]
        exact aNil_ok hT t x y (.inl ⟨rfl, rfl⟩) hv
      · rename_i xs ys h1 h2
        have e1 := he x; rw [h1] at e1
        have e2 := he y; rw [h2] at e2
        exact aAggEq_ok hT ht t x y e1 e2 hv
      · split at hv
        · rename_i hns
          have e2 : a.eval y = .slice none 0 0 := nilSl_eval hns a
          rw [e2]
          exact aNilS_ok hT t x y (he x) hv
        · cases hv
      · exact aBin_ok (P := P) t t x y (he x) (he y) hv
    obtain ⟨cv, hrun, hr⟩ := key
    refine opOk_value hFe h hd (by simp [hop]) (cv := cv) ?_ hr
    have hrun' : (((eqGuard op t x y (a.eval x) (a.eval y)).run P w).andThen fun _ w' => (binOp op t (a.eval x) (a.eval y)).run P w') = .ok cv w := by simpa using hrun
    simp only [execOp, hop]
    simp only [bind_assoc, Sem.run_bind]
    revert hrun'
    generalize (eqGuard op t x y (a.eval x) (a.eval y)).run P w = r
    cases r with
    | ok u w1 => intro h1; simp only [Result.andThen] at h1 ⊢; rw [h1]; simp
    | halt u w1 => intro h1; simp [Result.andThen] at h1
  case unOp op t x =>
    obtain ⟨cv, hrun, hr⟩ := aUn_ok (P := P) (he x) hv
    refine opOk_value hFe h hd (by simp [hop]) (cv := cv) ?_ hr
    simp [execOp, hop, hrun]
  case convert src dst x =>
    obtain ⟨cv, hrun, hr⟩ := conv_ok hT (he x) hv
    exact opOk_value hFe h hd (by simp [hop]) (cv := cv) (by simp [execOp, hop, hrun]) hr
  case extract x i =>
    split at hv
    · rename_i vs hx
      have hx' := he x
      rw [hx] at hx'
      generalize hcx : a.eval x = cx at hx'
      cases hx' with
      | tup _ cs hl hr =>
        have hlt := (List.getElem?_eq_some_iff.1 hv).1
        have hget : vs.getD i .undef = v := by simp [List.getD_eq_getElem?_getD, hv]
        refine opOk_value hFe h hd (by simp [hop]) (cv := cs.getD i undef) ?_ (hget ▸ hr i hlt)
        have hlt' : i < cs.size := by omega
        simp [execOp, hop, hcx, Instr.extract, hlt', Array.getD_eq_getD_getElem?]
    · cases hv
  case nilCheck x =>
    split at hv
    · rename_i hx
      cases hv
      have hx' := he x
      rw [hx] at hx'
      generalize hcx : a.eval x = cx at hx'
      have h2 := hx'
      cases hx' with
      | ptr _ _ _ _ _ o ho hge hs hptr =>
        obtain ⟨pa, rfl⟩ := hs
        exact opOk_value hFe h hd (by simp [hop]) (cv := .pointer (some pa)) (by simp [execOp, hop, hcx]) h2
    · rename_i hx
      cases hv
      have hx' := he x
      rw [hx] at hx'
      generalize hcx : a.eval x = cx at hx'
      have h2 := hx'
      cases hx' with
      | rptr _ _ b o vs h0 hb hc hdd => exact opOk_value hFe h hd (by simp [hop]) (cv := .pointer (some ⟨b, o + _, none⟩)) (by simp [execOp, hop, hcx]) h2
    · rename_i hx
      cases hv
      have hx' := he x
      rw [hx] at hx'
      generalize hcx : a.eval x = cx at hx'
      have h2 := hx'
      cases hx' with
      | fn _ _ vs hl hc => exact opOk_value hFe h hd (by simp [hop]) (cv := .func (.func _) #[] vs) (by simp [execOp, hop, hcx]) h2
    · cases hv
  case makeFunc fn first cap =>
    split at hv
    · rename_i f hfirst
      cases hv
      have hf : first = #[] := by rw [← Array.toArray_toList (xs := first), hfirst]
      subst hf
      obtain ⟨h1, h2⟩ := args_ok he cap
      exact opOk_value hFe h hd (by simp [hop]) (cv := .func (.func f) #[] (cap.map a.eval)) (by simp [execOp, hop, Instr.makeFunc]) (.fn _ _ _ h1.symm h2)
    · cases hv
  case build t parts =>
    split at hv
    · rename_i fs sz by' z hty
      split at hv
      · rename_i hall
        cases hb : buildA (fun i => fieldOf T t i) σ.eval parts.toList z with
        | none => rw [hb] at hv; cases hv
        | some cells' =>
          rw [hb] at hv
          cases hv
          obtain ⟨zv, hzv, hzo, hzs⟩ := hT.zeroRun hty w
          have hu := hT.under hty
          let pc : Nat → Option (Nat × Nat) := fun i => (fs.map fun f => (f.offset, match T f.type with | some y => y.size | none => 0))[i]?
          obtain ⟨c', g1, g2, g3⟩ := buildA_ok h (pl := fun i => fieldOf T t i) (pc := pc) (fun i off y hf => by
            obtain ⟨fs', fd, hu', hfd, rfl, hty'⟩ := fieldOf_spec hT hf
            rw [hu] at hu'
            cases hu'
            simp [pc, hfd, hty']) parts.toList zv.cells z cells' hzo.1 (fun i hi => hzo.2 i hi _ _ _ _) hb
          have hm : (fs.mapM fun f => (do pure (f.offset, ← sizeOf f.type) : Sem (Nat × Nat))).run P w = .ok (fs.map fun f => (f.offset, match T f.type with | some y => y.size | none => 0)) w := by
            rw [Array.mapM_eq_mapM_toList, map_eq_pure_bind]
            have key := run_mapM_any (P := P) (fun f : Field => (do pure (f.offset, ← sizeOf f.type) : Sem (Nat × Nat))) (fun f => (f.offset, match T f.type with | some y => y.size | none => 0)) w fs.toList (fun f hfm => by
              have h1 : (T f.type).isSome = true := by
                rw [List.all_eq_true] at hall
                exact hall f hfm
              cases hf : T f.type with
              | none => rw [hf] at h1; cases h1
              | some y => simp [hT.sizeOf hf])
            rw [Sem.run_bind, key]
            have e3 : (fs.toList.map fun f => (f.offset, match T f.type with | some y => y.size | none => 0)).toArray = fs.map fun f => (f.offset, match T f.type with | some y => y.size | none => 0) := by rw [← Array.toList_map]
            simp only [Result.andThen, e3]
            rfl
          refine opOk_value hFe h hd (by simp [hop]) (cv := .agg c') ?_ (.agg _ _ g2 g3)
          have g1' : Instr.fill pc zv.cells (parts.map fun (i, x) => (i, a.eval x)).toList = some c' := by rw [Array.toList_map]; exact g1
          have hrun : (Instr.build t (parts.map fun (i, x) => (i, a.eval x))).run P w = .ok (.agg c') w := by
            unfold Instr.build
            rw [Sem.run_bind, hzv]
            simp only [Result.andThen]
            rw [Sem.run_bind, run_underlying hu]
            simp only [Result.andThen]
            rw [Sem.run_bind, hm]
            simp only [Result.andThen]
            rw [show (fun x => (fs.map fun f => (f.offset, match T f.type with | some y => y.size | none => 0))[x]?) = pc from rfl, g1']
            rfl
          simp [execOp, hop, hrun]
      · cases hv
    · rename_i n el sz by' z hty
      split at hv
      · rename_i y hel
        cases hb : buildA (fun i => some (i * y.size, y)) σ.eval parts.toList z with
        | none => rw [hb] at hv; cases hv
        | some cells' =>
          rw [hb] at hv
          cases hv
          obtain ⟨zv, hzv, hzo, hzs⟩ := hT.zeroRun hty w
          have hu := hT.under hty
          obtain ⟨c', g1, g2, g3⟩ := buildA_ok h (pl := fun i => some (i * y.size, y)) (pc := fun i => some (i * y.size, y.size)) (fun i off y' hf => by cases hf; rfl) parts.toList zv.cells z cells' hzo.1 (fun i hi => hzo.2 i hi _ _ _ _) hb
          refine opOk_value hFe h hd (by simp [hop]) (cv := .agg c') ?_ (.agg _ _ g2 g3)
          have g1' : Instr.fill (fun i => some (i * y.size, y.size)) zv.cells (parts.map fun (i, x) => (i, a.eval x)).toList = some c' := by rw [Array.toList_map]; exact g1
          have hrun : (Instr.build t (parts.map fun (i, x) => (i, a.eval x))).run P w = .ok (.agg c') w := by
            unfold Instr.build
            rw [Sem.run_bind, hzv]
            simp only [Result.andThen]
            rw [Sem.run_bind, run_underlying hu]
            simp only [Result.andThen]
            rw [Sem.run_bind, hT.sizeOf hel]
            simp only [Result.andThen]
            rw [g1']
            rfl
          simp [execOp, hop, hrun]
      · cases hv
    · cases hv
  case field t x f =>
    split at hv
    · rename_i cs off y hx hf
      have hx' := he x
      rw [hx] at hx'
      generalize hcx : a.eval x = cx at hx'
      obtain ⟨fs, fd, hu, hfd, rfl, hty⟩ := fieldOf_spec hT hf
      cases hx' with
      | agg _ vs hl hr =>
        obtain ⟨cv, hrun, hrv⟩ := part_ok hT hty hl hr hv
        exact opOk_value hFe h hd (by simp [hop]) (cv := cv) (by simp [execOp, hop, hcx, Instr.field, run_underlying hu, hfd, asAgg, hrun]) hrv
    · cases hv
  case index t x i =>
    split at hv
    · rename_i s k m hx hi
      split at hv
      · rename_i hty
        obtain ⟨⟨h0, h1⟩, rfl⟩ := ite_some hv
        have hx' := he x
        rw [hx] at hx'
        have hi' := he i
        rw [hi] at hi'
        obtain ⟨s', hs', hss⟩ := relD_str hx'
        have hi2 := relD_int hi'
        have hsz : s'.size = s.length := by rw [← hss]; rfl
        have hlt : m.toNat < s'.size := by omega
        refine opOk_value hFe h hd (by simp [hop]) (cv := .int .u8 ((s.getD m.toNat 0).toNat : Int)) ?_ (.d _ _ (.int _ _))
        have hget : s'[m.toNat]? = some (s.getD m.toNat 0) := by
          subst hss
          have h2 : m.toNat < s'.data.size := hlt
          have : s'[m.toNat]? = some s'[m.toNat] := by
            rw [getElem?_pos s' m.toNat hlt]
          rw [this]
          congr 1
          have h3 : m.toNat < s'.data.toList.length := by simpa using h2
          simp only [List.getD_eq_getElem?_getD, List.getElem?_eq_getElem h3, Option.getD_some]
          rfl
        have hu := hT.under hty
        simp only at hu
        simp [execOp, hop, hs', hi2, Instr.index, asIntOf, run_underlying hu, h0, hget]
      · cases hv
    · rename_i cs k m hx hi
      split at hv
      · rename_i len y hty
        split at hv
        · rename_i hm
          obtain ⟨h0, h1⟩ := hm
          have hx' := he x
          rw [hx] at hx'
          have hi' := he i
          rw [hi] at hi'
          have hi2 := relD_int hi'
          generalize hcx : a.eval x = cx at hx'
          obtain ⟨e, hu, hte⟩ := arrT_spec hT hty
          cases hx' with
          | agg _ vs hl hr =>
            obtain ⟨cv, hrun, hrv⟩ := part_ok hT hte hl hr hv
            exact opOk_value hFe h hd (by simp [hop]) (cv := cv) (by simp [execOp, hop, hcx, hi2, Instr.index, asIntOf, run_underlying hu, h0, h1, hT.sizeOf hte, hrun]) hrv
        · cases hv
      · cases hv
    · rename_i ds k m hx hi
      split at hv
      · rename_i len y hty
        obtain ⟨⟨⟨h0, h1⟩, hag, hys, hlt⟩, rfl⟩ := ite_some hv
        have hx' := he x
        rw [hx] at hx'
        have hi' := he i
        rw [hi] at hi'
        have hi2 := relD_int hi'
        generalize hcx : a.eval x = cx at hx'
        obtain ⟨e, hu, hte⟩ := arrT_spec hT hty
        cases hx' with
        | ar _ vs hl hr =>
          have hpart : partA y (ds.map AV.d) (m.toNat * y.size) = some (.d (ds.getD m.toNat .nilp)) := by
            unfold partA
            rw [hag, hys, Nat.mul_one]
            have h2 : m.toNat < (ds.map AV.d).length := by simpa using hlt
            have : (ds.map AV.d).drop m.toNat = (ds.map AV.d)[m.toNat] :: (ds.map AV.d).drop (m.toNat + 1) := List.drop_eq_getElem_cons h2
            rw [this]
            simp [List.getD_eq_getElem?_getD, hlt]
          obtain ⟨cv, hrun, hrv⟩ := part_ok hT hte (cs := ds.map AV.d) (vs := vs) (w := w) (Wr := Wrt F ρ σ.objs) (ρ := ρ) (objs := σ.objs) (by simpa using hl) (fun i hi => by
            have hi' : i < ds.length := by simpa using hi
            have e1 : (ds.map AV.d).getD i .undef = .d (ds.getD i .nilp) := by simp [List.getD_eq_getElem?_getD, hi']
            rw [e1]
            exact .d _ _ (hr i hi')) hpart
          exact opOk_value hFe h hd (by simp [hop]) (cv := cv) (by simp [execOp, hop, hcx, hi2, Instr.index, asIntOf, run_underlying hu, h0, h1, hT.sizeOf hte, hrun]) hrv
      · cases hv
    · cases hv
  case fieldAddr t x f =>
    split at hv
    · rename_i off y hf
      obtain ⟨cv, hrun, hr⟩ := fieldAt_ok hT (he x) hf hv
      exact opOk_value hFe h hd (by simp [hop]) (cv := cv) (by simp [execOp, hop, hrun]) hr
    · cases hv
  case indexAddr t x i =>
    split at hv
    · rename_i k m hi
      have hi' := he i
      rw [hi] at hi'
      have hi2 := relD_int hi'
      obtain ⟨cv, hrun, hr⟩ := elem_ok hT h.hp (k := k) (he x) hv
      exact opOk_value hFe h hd (by simp [hop]) (cv := cv) (by simp [execOp, hop, hi2, hrun]) hr
    · cases hv
  case load t x =>
    split at hv
    · rename_i y hty
      obtain ⟨cv, hrun, hr⟩ := loadA_ok hT h.hp hty (he x) hv
      exact opOk_value hFe h hd (by simp [hop]) (cv := cv) (by simp [execOp, hop, hrun]) hr
    · cases hv
  case lookup t x k ok =>
    split at hv
    · rename_i y hty
      obtain ⟨cv, hrun, hr⟩ := lookup_ok hT h.hp hty (he x) (he k) hv
      exact opOk_value hFe h hd (by simp [hop]) (cv := cv) (by simp [execOp, hop, hrun]) hr
    · cases hv
  case slice t x lo hi mx =>
    split at hv
    · rename_i len hlen
      split at hv
      · rename_i l hh hlo hhi
        have h1 := bound_ok (F := F) (ρ := ρ) (objs := σ.objs) (w := w) he hlo
        have h2 := bound_ok (F := F) (ρ := ρ) (objs := σ.objs) (w := w) he hhi
        obtain ⟨cv, hrun, hr⟩ := slice_ok (P := P) hT (he x) hlen (lo := lo.map a.eval) (hi := hi.map a.eval) (by
          rcases h1 with ⟨rfl, rfl⟩ | ⟨o, k, rfl, ho⟩
          · exact .inl ⟨rfl, rfl⟩
          · exact .inr ⟨k, by simp [ho]⟩) (by
          rcases h2 with ⟨rfl, rfl⟩ | ⟨o, k, rfl, ho⟩
          · exact .inl ⟨rfl, rfl⟩
          · exact .inr ⟨k, by simp [ho]⟩) hv
        exact opOk_value hFe h hd (by simp [hop]) (cv := cv) (by simp [execOp, hop, hrun]) hr
      · cases hv
    · obtain ⟨cv, hrun, hr⟩ := sliceP_ok hT h.hp he hv
      exact opOk_value hFe h hd (by simp [hop]) (cv := cv) (by simp [execOp, hop, hrun]) hr
    · cases hv
  case call c =>
    split at hv
    · rename_i f hcal
      split at hv
      · rename_i g cap hf
        have hfv := he f
        rw [hf] at hfv
        generalize hcf : a.eval f = cf at hfv
        cases hfv with
        | fn _ _ vs hl hcap =>
          obtain ⟨hent, hcl, hfn⟩ := ht.c _ _ _ hv
          obtain ⟨hsz, hargs⟩ := args_ok he c.args
          have hrel : ∀ i, i < (c.args.toList.map σ.eval ++ cap).length → RelV w (Wrt F ρ σ.objs) ρ σ.objs ((c.args.toList.map σ.eval ++ cap).getD i .undef) ((c.args.map a.eval ++ vs).getD i undef) := by
            intro i hi
            rw [getD_append, arr_getD_append, hsz]
            split
            · rename_i h1; exact hargs i h1
            · rename_i h1; exact hcap _ (by simp at hi h1 ⊢; omega)
          have hfn' := hfn (fun b => Wrt F ρ σ.objs b ∧ b < w.heap.size) w (c.args.map a.eval ++ vs) (fun b hb => hb.2) (by simp [hsz, ← hl])
            (fun i hi => (hrel i hi).lift (hcl i hi) (fun b _ hb hb2 => hb hb2.1))
          intro K Q hK
          refine ⟨fun f _ => hFe.fn f, ?_⟩
          rw [Oper.semAt_eq _ _ _ (by simp [hop])]
          have hrun : (execOp a.eval o).run P w = .ok (.enter g (c.args.map a.eval ++ vs)) w := by
            simp [execOp, hop, resolve, hcal, hcf, Deferred.ofValue, invoke, hent]
          rw [hrun]
          refine ⟨fun hd => by simp [hFe.depth] at hd, hFe.calls (hfn'.mono ?_)⟩
          rintro e w' ⟨cv, rfl, hr, hfr⟩
          exact hK ρ _ _ ((h.world hfr).puto hd (lift_of_nil hr (fun b hb hn hw => hn ⟨hw, by
            rcases hw with hw | ⟨id, ob, δ, ho, hρ⟩
            · exact Nat.lt_of_lt_of_le (h.hp.am b hw) h.hp.frm.size
            · have := (h.hp.ob id ob ho).lies
              rw [hρ] at this
              exact this.lt⟩)))
      · cases hv
    · rename_i hcal
      split at hv
      · rename_i x t hargs htys
        have hc : c = { callee := .builtin .len, args := #[x], argTypes := #[t] } := by
          obtain ⟨ca, ar, at'⟩ := c
          simp only at hcal hargs htys
          rw [hcal, ← Array.toArray_toList (xs := ar), hargs, ← Array.toArray_toList (xs := at'), htys]
        subst hc
        have fin : ∀ m : Int, (Builtin.len_ #[t] o.type #[a.eval x]).run P w = .ok (.int .i64 m) w → v = .d (.int .i64 m) → OpOk P Fe n F o (σ.puto o.dst v) a w := by
          rintro m hrun rfl
          exact opOk_value hFe h hd (by simp [hop]) (cv := .int .i64 m) (by simp [execOp, hop, resolve, invoke, builtin, hrun]) (.d _ _ (.int _ _))
        split at hv
        · rename_i k el _ _ _ hty
          cases hv
          have hu := hT.under hty
          simp only at hu
          exact fin _ (by
            have : ∀ u, (Builtin.len_ #[t] o.type #[u]).run P w = .ok (.int .i64 k) w := by
              intro u
              cases u <;> simp [Builtin.len_, run_underlying hu, goInt]
            exact this _) rfl
        · rename_i el _ _ _ hty
          have hu := hT.under hty
          simp only at hu
          have hx := he x
          split at hv
          · rename_i rows hxe
            cases hv
            rw [hxe] at hx
            generalize a.eval x = cx at *
            cases hx with
            | d _ _ hx => cases hx with
              | sl0 p cap => exact fin 0 (by simp [Builtin.len_, run_underlying hu, goInt]) rfl
              | sl rows b off sz cap vs => exact fin rows.length (by simp [Builtin.len_, run_underlying hu, goInt]) rfl
          · rename_i i1 i2 len i3 hxe
            cases hv
            rw [hxe] at hx
            generalize a.eval x = cx at *
            cases hx with
            | win _ _ _ _ _ o' ho' hg hs hw =>
              obtain ⟨p, cap, rfl⟩ := hs
              exact fin len (by simp [Builtin.len_, run_underlying hu, goInt]) rfl
          · rename_i hxe
            cases hv
            rw [hxe] at hx
            generalize a.eval x = cx at *
            cases hx with
            | nils => exact fin 0 (by simp [Builtin.len_, run_underlying hu, goInt]) rfl
          · cases hv
        · rename_i _ _ _ hty
          have hu := hT.under hty
          simp only at hu
          have hx := he x
          split at hv
          · rename_i s hxe
            cases hv
            rw [hxe] at hx
            obtain ⟨s', hs', hss⟩ := relD_str hx
            have hsz : s'.size = s.length := by rw [← hss]; rfl
            exact fin s.length (by rw [hs']; simp [Builtin.len_, run_underlying hu, goInt, hsz]) rfl
          · cases hv
        · cases hv
      · cases hv
    · rename_i hcal
      split at hv
      · rename_i k x k' y hargs
        obtain ⟨hk, rfl⟩ := ite_some hv
        subst hk
        obtain ⟨o1, o2, hl, h1, h2⟩ := two_of_map hargs
        have e1 := he o1; rw [h1] at e1
        have e2 := he o2; rw [h2] at e2
        have hargs' : c.args = #[o1, o2] := by rw [← Array.toArray_toList (xs := c.args), hl]
        refine opOk_value hFe h hd (by simp [hop]) (cv := .int k (if y > x then y else x)) ?_ (.d _ _ (.int _ _))
        simp [execOp, hop, resolve, hcal, hargs', invoke, builtin, relD_int e1, relD_int e2, Builtin.max_, Builtin.max2]
      · cases hv
    · rename_i hcal
      split at hv
      · rename_i k x k' y hargs
        obtain ⟨hk, rfl⟩ := ite_some hv
        subst hk
        obtain ⟨o1, o2, hl, h1, h2⟩ := two_of_map hargs
        have e1 := he o1; rw [h1] at e1
        have e2 := he o2; rw [h2] at e2
        have hargs' : c.args = #[o1, o2] := by rw [← Array.toArray_toList (xs := c.args), hl]
        refine opOk_value hFe h hd (by simp [hop]) (cv := .int k (if y < x then y else x)) ?_ (.d _ _ (.int _ _))
        simp [execOp, hop, resolve, hcal, hargs', invoke, builtin, relD_int e1, relD_int e2, Builtin.min_, Builtin.min2]
      · cases hv
    · cases hv

end Go.AI
