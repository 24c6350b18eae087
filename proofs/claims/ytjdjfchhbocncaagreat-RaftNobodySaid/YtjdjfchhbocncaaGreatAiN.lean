/- Operations that make or change objects do what their abstract values say. -/
import Derived.Test.YtjdjfchhbocncaaGreatAiD
namespace Go.AI
set_option linter.unusedVariables false
set_option linter.unusedSectionVars false

theorem opOk_do {P : Program} {Fe : Fence} {n : Nat} (hFe : Wide Fe) {F : Fr} {ρ' : Nat → Option (Nat × Nat)} {σ : AS} {objs' : List AObj} {a : Act} {w w' : World} {o : Oper}
    (hd : ∀ t, o.dst = some t → t < F.nt) (hdef : ∀ c, o.op ≠ .defer c) (h : Rel F ρ' ⟨σ.tmps, objs'⟩ a w') {v : AV} {cv : Value} (hrun : (execOp a.eval o).run P w = .ok (.value cv) w')
    (hv : RelV w' (Wrt F ρ' objs') ρ' objs' v cv) : OpOk P Fe n F o (σ.res o.dst (v, objs')) a w := by
  intro K Q hK
  refine ⟨fun f _ => hFe.fn f, ?_⟩
  rw [Oper.semAt_eq _ _ _ hdef, hrun]
  exact hK ρ' _ _ (h.puto hd hv)

theorem opOk_skip {P : Program} {Fe : Fence} {n : Nat} (hFe : Wide Fe) {F : Fr} {ρ' : Nat → Option (Nat × Nat)} {σ : AS} {objs' : List AObj} {a : Act} {w w' : World} {o : Oper}
    (hd : ∀ t, o.dst = some t → t < F.nt) (hdef : ∀ c, o.op ≠ .defer c) (h : Rel F ρ' ⟨σ.tmps, objs'⟩ a w') (hrun : (execOp a.eval o).run P w = .ok .skip w') : OpOk P Fe n F o (σ.res o.dst (.skip, objs')) a w := by
  intro K Q hK
  refine ⟨fun f _ => hFe.fn f, ?_⟩
  rw [Oper.semAt_eq _ _ _ hdef, hrun]
  exact hK ρ' _ _ (h.puto hd .skip)

/-! ### Cells of values -/

theorem getD_get {α : Type} (l : List α) (i : Nat) (hi : i < l.length) (d : α) : l.getD i d = l[i] := by simp [List.getD_eq_getElem?_getD, hi]

theorem row_lt {i r n j : Nat} (h : i < r) (hj : j < n) : i * n + j < r * n := by
  have := Nat.mul_le_mul_right n (show i + 1 ≤ r by omega)
  rw [Nat.add_mul, Nat.one_mul] at this
  omega

/-- Cells of an object in memory, one by one. -/
theorem obj_cells {F : Fr} {ρ : Nat → Option (Nat × Nat)} {objs : List AObj} {w : World} (h : RelH F ρ objs w) {id : Nat} {o : AObj} (ho : objs[id]? = some o) {b δ : Nat} (hρ : ρ id = some (b, δ)) (hm : o.isMap = false := by rfl) :
    ∃ (c : Array Value) (e : TypeId) (f : Nat × Nat), w.heap[b]? = some (.cells c e f) ∧ (∀ i, i < c.size → ¬ (f.1 ≤ i ∧ i < f.2)) ∧ δ + o.rows.length * o.sz ≤ c.size ∧
      ∀ i j, i < o.rows.length → j < o.sz → RelV w (Wrt F ρ objs) ρ objs (acell o.rows i j) (c.getD (δ + (i * o.sz + j)) undef) := by
  obtain ⟨h1, h2⟩ := h.ob id o ho
  rw [hρ] at h2
  obtain ⟨c, e, f, g1, g2, g3, g4⟩ := LiesAt.cells h2 hm
  refine ⟨c, e, f, g1, fun i hi => ?_, g3, g4⟩
  have := g2 i hi
  unfold World.frozen? at this
  rw [g1] at this
  obtain ⟨f1, f2⟩ := f
  simpa using this

theorem acell_arr (rs : List (List D)) (n g i j : Nat) (hi : i < rs.length) (hj : j < (rs.getD i []).length) : acell (AObj.arr rs n g).rows i j = .d (rcell rs i j) := by
  have h1 : (AObj.arr rs n g).rows.getD i [] = (rs.getD i []).map .d := by simp [AObj.rows, List.getD_eq_getElem?_getD, hi]
  unfold acell rcell
  rw [h1]
  simp [List.getD_eq_getElem?_getD] at hj ⊢
  simp [hj]

section
variable {P : Program} {T : Nat → Option TY} (hT : TOk P T) {F : Fr} {ρ : Nat → Option (Nat × Nat)} {σ : AS} {a : Act} {w : World} (h : Rel F ρ σ a w)
include h

/-- A new variable. -/
theorem new_var {cs : List AV} {c : Array Value} {e : TypeId} (hl : cs.length = c.size) (hc : ∀ i, i < cs.length → RelV w (Wrt F ρ σ.objs) ρ σ.objs (cs.getD i .undef) (c.getD i undef)) :
    ∃ ρ', Rel F ρ' ⟨σ.tmps, σ.objs ++ [.var cs 0]⟩ a (w.alloc (.cells c e)) ∧ RelV (w.alloc (.cells c e)) (Wrt F ρ' (σ.objs ++ [.var cs 0])) ρ' (σ.objs ++ [.var cs 0]) (.ptr σ.objs.length 0 0 0) (.pointer (some ⟨w.heap.size, 0, none⟩)) := by
  obtain ⟨h1, h2⟩ := h.new (o := .var cs 0) (c := c) (e := e) (f := (0, 0)) (by simp [AObj.rows, AObj.sz]) (by intro i _; omega) (by simp [AObj.rows, AObj.sz]; omega) (fun i j hi hj => by
    have : i = 0 := by simpa [AObj.rows] using hi
    subst this
    simpa [acell, AObj.rows, AObj.sz] using hc j hj)
  refine ⟨_, h1, .ptr _ _ _ _ _ (.var cs 0) (by simp) (Nat.le_refl _) ⟨_, rfl⟩ fun _ => ⟨w.heap.size, 0, by simp [upd], by simp⟩⟩

/-- A new variable whose cells are data, one a row. -/
theorem new_rows {ds : List D} {c : Array Value} {e : TypeId} (hl : ds.length = c.size) (hc : ∀ i, i < ds.length → RelD w (Wrt F ρ σ.objs) (ds.getD i .nilp) (c.getD i undef)) :
    ∃ ρ', Rel F ρ' ⟨σ.tmps, σ.objs ++ [.arr (ds.map fun d => [d]) 1 0]⟩ a (w.alloc (.cells c e)) ∧ RelV (w.alloc (.cells c e)) (Wrt F ρ' (σ.objs ++ [.arr (ds.map fun d => [d]) 1 0])) ρ' (σ.objs ++ [.arr (ds.map fun d => [d]) 1 0]) (.ptr σ.objs.length 0 0 0) (.pointer (some ⟨w.heap.size, 0, none⟩)) := by
  obtain ⟨h1, h2⟩ := h.new (o := .arr (ds.map fun d => [d]) 1 0) (c := c) (e := e) (f := (0, 0)) (by simp only [AObj.rows, AObj.sz]; intro r hr; simp at hr; obtain ⟨d, _, rfl⟩ := hr; rfl) (by intro i _; omega) (by simp [AObj.rows, AObj.sz]; omega) (fun i j hi hj => by
    have hi' : i < ds.length := by simpa [AObj.rows] using hi
    have hj0 : j = 0 := by simp [AObj.sz] at hj; omega
    subst hj0
    have e1 : acell (AObj.arr (ds.map fun d => [d]) 1 0).rows i 0 = .d (ds.getD i .nilp) := by
      simp [acell, AObj.rows, List.getD_eq_getElem?_getD, hi']
    rw [e1]
    have e2 : i * (AObj.arr (ds.map fun d => [d]) 1 0).sz + 0 = i := by simp [AObj.sz]
    rw [e2]
    exact .d _ _ (hc i hi'))
  refine ⟨_, h1, .ptr _ _ _ _ _ (.arr (ds.map fun d => [d]) 1 0) (by simp) (Nat.le_refl _) ⟨_, rfl⟩ fun _ => ⟨w.heap.size, 0, by simp [upd], by simp⟩⟩

/-- A store of many rows. -/
theorem store_rows {id row g : Nat} {rs : List (List D)} {ds : List D} (ho : σ.objs[id]? = some (.arr rs 1 g)) (hle : row + ds.length ≤ rs.length) {vs : List Value} (hl : vs.length = ds.length)
    (hc : ∀ i, i < ds.length → RelD w (Wrt F ρ σ.objs) (ds.getD i .nilp) (vs.getD i undef)) {b δ : Nat} (hρ : ρ id = some (b, δ)) :
    ∃ w', (storeCells ⟨b, δ + (row * 1 + 0), none⟩ vs).run P w = .ok () w' ∧ Rel F ρ ⟨σ.tmps, σ.objs.set id (.arr (setR rs row (ds.map fun d => [d])) 1 g)⟩ a w' := by
  obtain ⟨c, e, f, hb, hf, hsz, hcell⟩ := obj_cells h.hp ho hρ
  have hrows := (h.hp.ob id _ ho).rowsz
  have hlen : ∀ i, i < rs.length → (rs.getD i []).length = 1 := by
    intro i hi
    have := hrows ((rs.getD i []).map .d) (by simp only [AObj.rows]; exact List.mem_map.2 ⟨_, by simp [List.getD_eq_getElem?_getD, hi], rfl⟩)
    simpa [AObj.sz] using this
  simp only [AObj.rows, AObj.sz, List.length_map, Nat.mul_one] at hsz
  have h1 : ∀ v ∈ vs, v.oneCell' = true := by
    intro v hv
    obtain ⟨i, hi, rfl⟩ := List.mem_iff_getElem.1 hv
    have := (hc i (by omega)).one.1
    simpa [List.getD_eq_getElem?_getD, hi] using this
  have hrun := run_storeCells_block (P := P) vs w c (δ + (row * 1 + 0)) 0 hb (by omega) hf h1
  refine ⟨_, hrun, ?_⟩
  have hle' : row + (ds.map fun d => [d]).length ≤ rs.length := by simpa using hle
  have hsl := setR_length rs row (ds.map fun d => [d]) hle'
  refine (h.write ho hρ hb (o' := .arr (setR rs row (ds.map fun d => [d])) 1 g) (over_size _ _ _) rfl rfl (by simp [AObj.rows, hsl]) ?_ (fun i j hi hj => ?_)).1
  · intro r hr'
    simp only [AObj.rows] at hr'
    obtain ⟨r', hr'', rfl⟩ := List.mem_map.1 hr'
    obtain ⟨i, hi, rfl⟩ := List.mem_iff_getElem.1 hr''
    have hg := setR_get rs row (ds.map fun d => [d]) [] hle' i
    have e1 : (setR rs row (ds.map fun d => [d])).getD i [] = (setR rs row (ds.map fun d => [d]))[i] := by simp [List.getD_eq_getElem?_getD, hi]
    rw [e1] at hg
    rw [hg]
    simp only [AObj.sz, List.length_map]
    split
    · rename_i hin
      have : i - row < ds.length := by first | omega | (simp at hin; omega)
      simp [List.getD_eq_getElem?_getD, this]
    · exact hlen i (by rw [hsl] at hi; exact hi)
  · have hi' : i < rs.length := by simpa [AObj.rows, hsl] using hi
    have hj0 : j = 0 := by simp [AObj.sz] at hj; omega
    subst hj0
    rw [over_get _ _ _ _ (by omega)]
    have e0 : δ + (i * (AObj.arr (setR rs row (ds.map fun d => [d])) 1 g).sz + 0) = δ + i := by simp [AObj.sz]
    rw [e0]
    have hg := setR_get rs row (ds.map fun d => [d]) [] hle' i
    have e1 : acell (AObj.arr (setR rs row (ds.map fun d => [d])) 1 g).rows i 0 = .d (((setR rs row (ds.map fun d => [d])).getD i []).getD 0 .nilp) := by
      rw [acell_arr _ _ _ _ _ (by rw [hsl]; exact hi')]
      · rfl
      · rw [hg]
        split
        · rename_i hin
          have : i - row < ds.length := by first | omega | (simp at hin; omega)
          simp [List.getD_eq_getElem?_getD, this]
        · rw [hlen i hi']; omega
    rw [e1, hg]
    simp only [List.length_map]
    by_cases hin : row ≤ i ∧ i < row + ds.length
    · rw [if_pos hin, if_pos (by omega)]
      have e2 : δ + i - (δ + (row * 1 + 0) + 0) = i - row := by omega
      rw [e2]
      have h3 : i - row < ds.length := by omega
      have := hc (i - row) h3
      simp only [List.getD_eq_getElem?_getD, List.getElem?_map, List.getElem?_eq_getElem h3] at this ⊢
      exact .d _ _ this
    · rw [if_neg hin, if_neg (by omega)]
      have := hcell i 0 (by simpa [AObj.rows] using hi') (by simp [AObj.sz])
      rw [acell_arr _ _ _ _ _ hi' (by rw [hlen i hi']; omega)] at this
      simpa [AObj.sz, rcell] using this

/-- A new array. -/
theorem new_arr {rs : List (List D)} {n : Nat} {c : Array Value} {e : TypeId} {f : Nat × Nat} {cap : Nat} (hrow : ∀ r ∈ rs, r.length = n) (hfr : ∀ i, i < c.size → ¬ (f.1 ≤ i ∧ i < f.2)) (hcap : rs.length ≤ cap) (hl : cap * n ≤ c.size)
    (hc : ∀ i j, i < rs.length → j < n → RelD w (Wrt F ρ σ.objs) (rcell rs i j) (c.getD (i * n + j) undef)) :
    ∃ ρ', Rel F ρ' ⟨σ.tmps, σ.objs ++ [.arr rs n 1]⟩ a (w.alloc (.cells c e f)) ∧ RelV (w.alloc (.cells c e f)) (Wrt F ρ' (σ.objs ++ [.arr rs n 1])) ρ' (σ.objs ++ [.arr rs n 1]) (.win σ.objs.length 0 rs.length 1) (.slice (some ⟨w.heap.size, 0, none⟩) rs.length cap) := by
  have hle : rs.length * n ≤ c.size := Nat.le_trans (Nat.mul_le_mul_right n hcap) hl
  obtain ⟨h1, h2⟩ := h.new (o := .arr rs n 1) (c := c) (e := e) (f := f) (by simp only [AObj.rows, AObj.sz]; intro r hr; obtain ⟨r', hr', rfl⟩ := List.mem_map.1 hr; simp [hrow r' hr']) hfr (by simpa [AObj.rows, AObj.sz] using hle) (fun i j hi hj => by
    have hi' : i < rs.length := by simpa [AObj.rows] using hi
    have hmem : rs.getD i [] ∈ rs := by simp [List.getD_eq_getElem?_getD, hi']
    rw [acell_arr rs n 1 i j hi' (by rw [hrow _ hmem]; exact hj)]
    exact .d _ _ (hc i j hi' hj))
  refine ⟨_, h1, .win _ _ _ _ _ (.arr rs n 1) (by simp) (Nat.le_refl _) ⟨_, _, rfl⟩ fun _ => ⟨by simp [AObj.rows], _, _, rfl, ⟨hcap, .inr (by simpa [AObj.rows] using hcap)⟩, .inr ⟨w.heap.size, 0, c, e, f, by simp [upd], by simp, alloc_heap_new' _ _, by simpa [AObj.sz] using hl⟩⟩⟩

/-- A store into a variable. -/
theorem store_var {id col g : Nat} {cells cs : List AV} (ho : σ.objs[id]? = some (.var cells g)) (hle : col + cs.length ≤ cells.length) {vs : List Value} (hl : vs.length = cs.length) (h1 : ∀ v ∈ vs, v.oneCell' = true)
    (hc : ∀ i, i < cs.length → RelV w (Wrt F ρ σ.objs) ρ σ.objs (cs.getD i .undef) (vs.getD i undef)) {b δ : Nat} (hρ : ρ id = some (b, δ)) :
    ∃ w', (storeCells ⟨b, δ + col, none⟩ vs).run P w = .ok () w' ∧ Rel F ρ ⟨σ.tmps, σ.objs.set id (.var (setR cells col cs) g)⟩ a w' := by
  obtain ⟨c, e, f, hb, hf, hsz, hcell⟩ := obj_cells h.hp ho hρ
  simp only [AObj.rows, AObj.sz, List.length_singleton, Nat.one_mul] at hsz hcell
  have hrun := run_storeCells_block (P := P) vs w c (δ + col) 0 hb (by omega) hf h1
  refine ⟨_, hrun, ?_⟩
  refine (h.write ho hρ hb (o' := .var (setR cells col cs) g) (over_size _ _ _) (by simp [AObj.sz, setR_length cells col cs hle]) rfl rfl (by simp [AObj.rows, AObj.sz]) (fun i j hi hj => ?_)).1
  have hi0 : i = 0 := by simpa [AObj.rows] using hi
  subst hi0
  simp only [AObj.sz, setR_length cells col cs hle] at hj
  simp only [Nat.zero_mul, Nat.zero_add, Nat.add_zero]
  rw [over_get _ _ _ _ (by omega)]
  have : acell (AObj.var (setR cells col cs) g).rows 0 j = (setR cells col cs).getD j .undef := by simp [acell, AObj.rows]
  rw [this, setR_get cells col cs _ hle]
  by_cases hin : col ≤ j ∧ j < col + cs.length
  · rw [if_pos hin, if_pos (by omega)]
    have : δ + j - (δ + col) = j - col := by omega
    rw [this]
    exact hc _ (by omega)
  · rw [if_neg hin, if_neg (by omega)]
    have := hcell 0 j (by omega) hj
    simpa [acell] using this

/-- A store into an array. -/
theorem store_arr {id row col n g : Nat} {rs : List (List D)} {ds : List D} (ho : σ.objs[id]? = some (.arr rs n g)) (hr : row < rs.length) (hle : col + ds.length ≤ n) {vs : List Value} (hl : vs.length = ds.length) (h1 : ∀ v ∈ vs, v.oneCell' = true)
    (hc : ∀ i, i < ds.length → RelD w (Wrt F ρ σ.objs) (ds.getD i .nilp) (vs.getD i undef)) {b δ : Nat} (hρ : ρ id = some (b, δ)) :
    ∃ w', (storeCells ⟨b, δ + (row * n + col), none⟩ vs).run P w = .ok () w' ∧ Rel F ρ ⟨σ.tmps, σ.objs.set id (.arr (rs.set row (setR (rs.getD row []) col ds)) n g)⟩ a w' := by
  obtain ⟨c, e, f, hb, hf, hsz, hcell⟩ := obj_cells h.hp ho hρ
  have hrows := (h.hp.ob id _ ho).rowsz
  have hlen : ∀ i, i < rs.length → (rs.getD i []).length = n := by
    intro i hi
    have := hrows ((rs.getD i []).map .d) (by simp only [AObj.rows]; exact List.mem_map.2 ⟨_, by simp [List.getD_eq_getElem?_getD, hi], rfl⟩)
    simpa [AObj.sz] using this
  simp only [AObj.rows, AObj.sz, List.length_map] at hsz
  have hend : row * n + n ≤ rs.length * n := by
    have := Nat.mul_le_mul_right n (show row + 1 ≤ rs.length by omega)
    rwa [Nat.add_mul, Nat.one_mul] at this
  have hrun := run_storeCells_block (P := P) vs w c (δ + (row * n + col)) 0 hb (by omega) hf h1
  refine ⟨_, hrun, ?_⟩
  have hgd : ∀ i, (rs.set row (setR (rs.getD row []) col ds)).getD i [] = if i = row then setR (rs.getD row []) col ds else rs.getD i [] := by
    intro i
    simp only [List.getD_eq_getElem?_getD, List.getElem?_set]
    by_cases hi : i = row
    · subst hi; simp [hr]
    · simp [hi, Ne.symm hi]
  have hsl : (setR (rs.getD row []) col ds).length = n := by rw [setR_length _ _ _ (by rw [hlen row hr]; exact hle), hlen row hr]
  refine (h.write ho hρ hb (o' := .arr (rs.set row (setR (rs.getD row []) col ds)) n g) (over_size _ _ _) rfl rfl (by simp [AObj.rows]) ?_ (fun i j hi hj => ?_)).1
  · intro r hr'
    simp only [AObj.rows] at hr'
    obtain ⟨r', hr'', rfl⟩ := List.mem_map.1 hr'
    obtain ⟨i, hi, e1⟩ := List.mem_iff_getElem.1 hr''
    have hi' : i < rs.length := by simpa using hi
    have e2 : r' = (rs.set row (setR (rs.getD row []) col ds)).getD i [] := by rw [← e1, getD_get _ _ hi]
    rw [List.length_map, e2, hgd]
    split
    · exact hsl
    · exact hlen i hi'
  · have hi' : i < rs.length := by simpa [AObj.rows] using hi
    simp only [AObj.sz] at hj ⊢
    have hrl : ((rs.set row (setR (rs.getD row []) col ds)).getD i []).length = n := by
      rw [hgd]; split
      · exact hsl
      · exact hlen i hi'
    rw [acell_arr _ _ _ _ _ (by simpa using hi') (by rw [hrl]; exact hj)]
    refine .d _ _ ?_
    have hold : RelD w (Wrt F ρ σ.objs) (rcell rs i j) (c.getD (δ + (i * n + j)) undef) := by
      have := hcell i j (by simpa [AObj.rows] using hi') hj
      rw [acell_arr _ _ _ _ _ hi' (by rw [hlen i hi']; exact hj)] at this
      cases this with | d _ _ h => exact h
    simp only [Nat.add_zero]
    rw [over_get _ _ _ _ (by omega)]
    unfold rcell
    rw [hgd]
    by_cases hir : i = row
    · subst hir
      rw [if_pos rfl, setR_get _ _ _ _ (by rw [hlen i hr]; exact hle)]
      by_cases hin : col ≤ j ∧ j < col + ds.length
      · rw [if_pos hin, if_pos (by omega)]
        have : δ + (i * n + j) - (δ + (i * n + col)) = j - col := by omega
        rw [this]
        exact hc _ (by omega)
      · rw [if_neg hin, if_neg (by omega)]
        exact hold
    · rw [if_neg hir]
      have : ¬ (δ + (row * n + col) ≤ δ + (i * n + j) ∧ δ + (i * n + j) < δ + (row * n + col) + vs.length) := by
        rcases Nat.lt_or_gt_of_ne hir with hlt | hgt
        · have := row_lt hlt hj; omega
        · have := Nat.mul_le_mul_right n (show row + 1 ≤ i by omega)
          rw [Nat.add_mul, Nat.one_mul] at this
          omega
      rw [if_neg this]
      exact hold
omit h in
/-- Elements in memory: what is appended or copied. -/
structure Src (P : Program) (w : World) (Wr : Nat → Prop) (v : Value) (R : List (List D)) (n : Nat) : Prop where
  len : (Builtin.lenOf v).run P w = .ok R.length w
  cells : ∃ vals : List Value, vals.length = R.length * n ∧ (∀ u ∈ vals, u.oneCell' = true) ∧ (∀ k, k ≤ R.length → (Builtin.firstCells n k v).run P w = .ok (vals.take (k * n)).toArray w) ∧
    (∀ r ∈ R, r.length = n) ∧ ∀ i j, i < R.length → j < n → RelD w Wr (rcell R i j) (vals.getD (i * n + j) undef)

omit h in
theorem flat_get {f : Nat → Nat → Value} {n : Nat} (hn : 0 < n) (m i j : Nat) (hi : i < m) (hj : j < n) : ((List.range (m * n)).map fun k => f (k / n) (k % n)).getD (i * n + j) undef = f i j := by
  have hlt := row_lt hi hj
  rw [getD_get _ _ (by simpa using hlt)]
  simp only [List.getElem_map, List.getElem_range]
  have h1 : (i * n + j) / n = i := by
    rw [Nat.mul_comm, Nat.mul_add_div hn, Nat.div_eq_of_lt hj, Nat.add_zero]
  have h2 : (i * n + j) % n = j := by
    rw [Nat.mul_comm, Nat.mul_add_mod, Nat.mod_eq_of_lt hj]
  rw [h1, h2]

omit h in
theorem src_rows {Wr : Nat → Prop} {R : List (List D)} {b o n m cap : Nat} {vs : Nat → Nat → Value} (hn : 0 < n) (hsz : ∀ r ∈ R, r.length = n) (hm : R.length = m)
    (hc : ∀ i j, i < R.length → j < n → w.cell? ⟨b, o + (i * n + j), none⟩ = some (vs i j)) (hd : ∀ i j, i < R.length → j < n → RelD w Wr (rcell R i j) (vs i j)) :
    Src P w Wr (.slice (some ⟨b, o, none⟩) m cap) R n := by
  subst hm
  refine ⟨by simp [Builtin.lenOf], (List.range (R.length * n)).map fun k => vs (k / n) (k % n), by simp, ?_, fun k hk => ?_, hsz, fun i j hi hj => by rw [flat_get hn _ _ _ hi hj]; exact hd i j hi hj⟩
  · intro u hu
    obtain ⟨k, hk, rfl⟩ := List.mem_map.1 hu
    have hk := List.mem_range.1 hk
    exact (hd (k / n) (k % n) (Nat.div_lt_of_lt_mul (by rwa [Nat.mul_comm])) (Nat.mod_lt _ hn)).one.1
  · have hkn : k * n ≤ R.length * n := Nat.mul_le_mul_right n hk
    have hl : (loadCells ⟨b, o, none⟩ (k * n)).run P w = .ok ((List.range (k * n)).map fun q => vs (q / n) (q % n)).toArray w := by
      refine run_loadCells w _ (k * n) (fun q => vs (q / n) (q % n)) fun q hq => ?_
      rw [add_place]
      have h1 := hc (q / n) (q % n) (Nat.lt_of_lt_of_le (Nat.div_lt_of_lt_mul (by rwa [Nat.mul_comm])) hk) (Nat.mod_lt _ hn)
      rw [← h1]
      congr 2
      have := Nat.div_add_mod q n
      rw [Nat.mul_comm] at this
      rw [this]
    simp only [Builtin.firstCells, hl, ← List.map_take]
    have : (List.range (R.length * n)).take (k * n) = List.range (k * n) := by
      rw [List.take_range]
      congr 1; omega
    rw [this]

include hT in
theorem src_ok {x : AV} {v : Value} {R : List (List D)} {y : TY} (hx : RelV w (Wrt F ρ σ.objs) ρ σ.objs x v) (hr : srcA x σ.objs = some R) (hn : 0 < y.size) (hrow : ∀ r ∈ R, r.length = y.size) : Src P w (Wrt F ρ σ.objs) v R y.size := by
  have nil : ∀ p cap, Src P w (Wrt F ρ σ.objs) (.slice p 0 cap) [] y.size := by
    intro p cap
    refine ⟨by simp [Builtin.lenOf], [], by simp, by simp, fun k hk => ?_, by simp, fun i j hi => by simp at hi⟩
    have : k = 0 := by simpa using hk
    subst this
    cases p <;> simp [Builtin.firstCells, loadCells, loadCellsFrom]
  unfold srcA at hr
  split at hr
  · rename_i rows
    cases hr
    cases hx with
    | d _ _ hx =>
      cases hx with
      | sl0 p cap => exact nil p cap
      | sl rows b off sz cap vs hne hs0 hb hsz hc hd hcap =>
        have hr0 : 0 < R.length := List.length_pos_iff.2 hne
        have hmem : R.getD 0 [] ∈ R := by simp [List.getD_eq_getElem?_getD, hr0]
        have : sz = y.size := by rw [← hsz _ hmem, hrow _ hmem]
        subst this
        exact src_rows hs0 hsz rfl hc hd
  · cases hr
    cases hx with
    | nils => exact nil none 0
  · rename_i s
    cases hr
    obtain ⟨s', rfl, hs⟩ := relD_str hx
    have hsize : s'.size = s.length := by rw [← hs]; rfl
    have hy : ∀ b ∈ s, y.size = 1 := fun b hb => by
      have := hrow [.int .u8 (b.toNat : Int)] (List.mem_map.2 ⟨b, hb, rfl⟩)
      simpa using this.symm
    by_cases hnil : s = []
    · subst hnil
      refine ⟨by simp [Builtin.lenOf, hsize], [], by simp, by simp, fun k hk => ?_, by simp, fun i j hi => by simp at hi⟩
      have : k = 0 := by simpa using hk
      subst this
      simp [Builtin.firstCells]
    · obtain ⟨b0, hb0⟩ := List.exists_mem_of_ne_nil s hnil
      have hy1 : y.size = 1 := hy b0 hb0
      rw [hy1]
      refine ⟨by simp [Builtin.lenOf, hsize], s.map fun b => .int .u8 (b.toNat : Int), by simp, ?_, fun k hk => ?_, by simp, fun i j hi hj => ?_⟩
      · intro u hu
        obtain ⟨b, _, rfl⟩ := List.mem_map.1 hu
        rfl
      · have hk' : k ≤ s.length := by simpa using hk
        have : (Array.map (fun b : UInt8 => Value.int .u8 (b.toNat : Int)) (s'.extract 0 k).data) = ((s.map fun b => Value.int .u8 (b.toNat : Int)).take (k * 1)).toArray := by
          apply Array.toList_inj.1
          rw [Array.toList_map]
          simp only [ByteArray.data_extract, Array.toList_extract, List.extract_eq_take_drop, List.drop_zero, Nat.sub_zero, hs, Nat.mul_one, List.map_take]
        have h2 : Builtin.firstCells 1 k (.string s') = pure (Array.map (fun b : UInt8 => Value.int .u8 (b.toNat : Int)) (s'.extract 0 k).data) := rfl
        rw [h2, this]
        simp
      · have hj0 : j = 0 := by omega
        subst hj0
        have hi' : i < s.length := by simpa using hi
        have h1 : rcell (s.map fun b => [D.int .u8 (b.toNat : Int)]) i 0 = .int .u8 (s[i].toNat : Int) := by simp [rcell, List.getD_eq_getElem?_getD, hi']
        have h2 : (s.map fun b => Value.int .u8 (b.toNat : Int)).getD (i * 1 + 0) undef = .int .u8 (s[i].toNat : Int) := by simp [List.getD_eq_getElem?_getD, hi']
        rw [h1, h2]
        exact .int _ _
  · rename_i id off len gen
    split at hr
    · rename_i rs n g ho
      split at hr
      · rename_i hg
        have hg := of_decide_eq_true hg
        cases hr
        cases hx with
        | win _ _ _ _ _ o' ho' hge hs hwin =>
          rw [ho] at ho'; cases ho'
          obtain ⟨hfit, p, cap, rfl, hcap, hpl⟩ := hwin hg
          simp only [AObj.rows, List.length_map] at hfit hcap
          have hlen : ((rs.drop off).take len).length = len := by simp; omega
          by_cases hz : len = 0
          · subst hz
            simp only [List.take_zero]
            exact nil p cap
          · rcases hpl with hc0 | ⟨b, δ, c, e, f, hρ, rfl, hb, hle⟩
            · omega
            · obtain ⟨c', e', f', hb', hf', hsz', hcell⟩ := obj_cells h.hp ho hρ
              rw [hb] at hb'; cases hb'
              have hrows := (h.hp.ob id _ ho).rowsz
              have hrlen : ∀ i, i < rs.length → (rs.getD i []).length = n := by
                intro i hi
                have := hrows ((rs.getD i []).map .d) (by simp only [AObj.rows]; exact List.mem_map.2 ⟨_, by simp [List.getD_eq_getElem?_getD, hi], rfl⟩)
                simpa [AObj.sz] using this
              have hgd : ∀ i, i < len → ((rs.drop off).take len).getD i [] = rs.getD (off + i) [] := fun i hi => getD_drop_take _ _ _ _ _ hi
              have hny : n = y.size := by
                have hmem : ((rs.drop off).take len).getD 0 [] ∈ (rs.drop off).take len := by
                  rw [getD_get _ _ (by omega)]; exact List.getElem_mem _
                rw [← hrow _ hmem, hgd 0 (by omega), hrlen _ (by omega)]
              simp only [AObj.sz, AObj.rows, List.length_map] at hsz' hle
              rw [← hny]
              refine src_rows (vs := fun i j => c.getD (δ + ((off + i) * n + j)) undef) (by omega) (fun r hr' => by rw [hny]; exact hrow r hr') hlen (fun i j hi hj => ?_) (fun i j hi hj => ?_)
              · rw [hlen] at hi
                have h1 := row_lt (show off + i < rs.length by omega) hj
                have : δ + off * n + (i * n + j) = δ + ((off + i) * n + j) := by rw [Nat.add_mul]; omega
                simp only [AObj.sz]
                rw [this]
                exact cell_of_heap hb (by omega)
              · rw [hlen] at hi
                have := hcell (off + i) j (by simp [AObj.rows]; omega) hj
                rw [acell_arr _ _ _ _ _ (by omega) (by rw [hrlen _ (by omega)]; exact hj)] at this
                cases this with
                | d _ _ h => unfold rcell at h ⊢; rw [hgd i hi]; exact h
      · cases hr
    · cases hr
  · cases hr
end

end Go.AI
