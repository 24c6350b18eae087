/- All operations that make or change objects. -/
import Derived.Test.YtjdjfchhbocncaaGreatAiO
import Derived.Laws.IdiomStrings
import Derived.Laws.BytesArg
namespace Go.AI
set_option linter.unusedVariables false
set_option linter.unusedSectionVars false

theorem rel_d {w : World} {Wr : Nat → Prop} {ρ : Nat → Option (Nat × Nat)} {objs : List AObj} {x : D} {v : Value} (h : RelV w Wr ρ objs (.d x) v) : RelD w Wr x v := by
  cases h with
  | d _ _ h => exact h

theorem freeze_ok {F : Fr} {ρ : Nat → Option (Nat × Nat)} {objs : List AObj} {w : World} (h : RelH F ρ objs w) {id off len gen n g : Nat} {rs : List (List D)} {v : Value}
    (ho : objs[id]? = some (.arr rs n g)) (hg : gen = g) (hn : 0 < n) (hv : RelV w (Wrt F ρ objs) ρ objs (.win id off len gen) v) {Wr' : Nat → Prop} (hW : ∀ b, Wr' b → Wrt F ρ objs b) (hW2 : ∀ b δ, ρ id = some (b, δ) → ¬ Wr' b) :
    RelD w Wr' (.sl ((rs.drop off).take len)) v := by
  cases hv with
  | win _ _ _ _ _ o ho' _ _ hw =>
    rw [ho] at ho'
    cases ho'
    obtain ⟨hfit, p, cap, rfl, hcap, hq⟩ := hw hg
    have hfit' : off + len ≤ rs.length := by simpa [AObj.rows] using hfit
    have hcap' : len ≤ cap := hcap.1
    by_cases hlen : len = 0
    · subst hlen; simp; exact .sl0 p cap
    · have hc0 : cap ≠ 0 := by omega
      rcases hq with hq | ⟨b, δ, _, _, _, hρ, hp, _, _⟩
      · exact absurd hq hc0
      · have hrl : ((rs.drop off).take len).length = len := by simp; omega
        have hlt := (h.ob id _ ho).lt hρ
        have hrow : ∀ i, i < len → (rs.getD (off + i) []).length = n ∧ ∃ vs : Nat → Value, (∀ k, k < n → w.cell? ⟨b, δ + ((off + i) * n + k), none⟩ = some (vs k)) ∧ ∀ k, k < n → RelD w Wr' ((rs.getD (off + i) []).getD k .nilp) (vs k) := by
          intro i hi
          obtain ⟨e1, vs, e2, e3⟩ := row_ok h ho hρ (i := off + i) (by simp [AObj.rows]; omega)
          have er : (AObj.arr rs n g).rows.getD (off + i) [] = (rs.getD (off + i) []).map AV.d := by
            simp only [AObj.rows, List.getD_eq_getElem?_getD, List.getElem?_map]
            cases rs[off + i]? <;> simp
          rw [er] at e1 e3
          have e1' : (rs.getD (off + i) []).length = n := by simpa [AObj.sz] using e1
          refine ⟨e1', vs, e2, fun k hk => ?_⟩
          have := e3 k hk
          have ek : ((rs.getD (off + i) []).map AV.d).getD k .undef = .d ((rs.getD (off + i) []).getD k .nilp) := by
            simp only [List.getD_eq_getElem?_getD, List.getElem?_map]
            have : k < (rs[off + i]?.getD []).length := by simpa [List.getD_eq_getElem?_getD] using e1' ▸ hk
            simp [List.getElem?_eq_getElem this]
          rw [ek] at this
          exact (rel_d this).stay (fun _ _ _ => rfl) fun b' hb' hn' hw' => hn' (hW b' hw')
        have hget : ∀ i, i < len → ((rs.drop off).take len).getD i [] = rs.getD (off + i) [] := by
          intro i hi
          simp only [List.getD_eq_getElem?_getD]
          rw [List.getElem?_take_of_lt hi, List.getElem?_drop]
        have hvs : ∃ vs : Nat → Nat → Value, ∀ i, i < len → (∀ k, k < n → w.cell? ⟨b, δ + ((off + i) * n + k), none⟩ = some (vs i k)) ∧ ∀ k, k < n → RelD w Wr' ((rs.getD (off + i) []).getD k .nilp) (vs i k) := by
          refine ⟨fun i k => (w.cell? ⟨b, δ + ((off + i) * n + k), none⟩).getD undef, fun i hi => ?_⟩
          obtain ⟨_, vs, e2, e3⟩ := hrow i hi
          exact ⟨fun k hk => by simp only [e2 k hk, Option.getD_some], fun k hk => by simpa only [e2 k hk, Option.getD_some] using e3 k hk⟩
        obtain ⟨vs, hvs⟩ := hvs
        have key := RelD.sl (w := w) (Wr := Wr') ((rs.drop off).take len) b (δ + off * n) n cap vs (by intro h0; rw [h0] at hrl; simp at hrl; omega) hn
          (hW2 b δ hρ)
          (fun r hr => by
            obtain ⟨i, hi, rfl⟩ := List.getElem_of_mem hr
            rw [hrl] at hi
            have := hget i hi
            simp only [List.getD_eq_getElem?_getD, List.getElem?_eq_getElem (show i < ((rs.drop off).take len).length by omega), Option.getD_some] at this
            rw [this]
            simpa [List.getD_eq_getElem?_getD] using (hrow i hi).1)
          (fun i j hi hj => by
            rw [hrl] at hi
            have e : δ + off * n + (i * n + j) = δ + ((off + i) * n + j) := by rw [Nat.add_mul]; omega
            rw [e]
            exact (hvs i hi).1 j hj)
          (fun i j hi hj => by
            rw [hrl] at hi
            unfold rcell
            rw [hget i hi]
            exact (hvs i hi).2 j hj)
          (by rw [hrl]; omega)
        rw [hrl] at key
        have hz : (AObj.arr rs n g).sz = n := rfl
        rw [hz] at hp
        subst hp
        exact key

theorem Wrt.lt {F : Fr} {ρ : Nat → Option (Nat × Nat)} {objs : List AObj} {w : World} (h : RelH F ρ objs w) {b : Nat} (hw : Wrt F ρ objs b) : b < w.heap.size := by
  rcases hw with hw | ⟨id, ob, δ, ho, hρ⟩
  · exact Nat.lt_of_lt_of_le (h.am b hw) h.frm.size
  · exact (h.ob id ob ho).lt hρ

theorem new_data {F : Fr} {ρ : Nat → Option (Nat × Nat)} {objs : List AObj} {w : World} (h : RelH F ρ objs w) {rs : List (List D)} {n cap : Nat} {c : Array Value} {e : TypeId} {f : Nat × Nat} (hrow : ∀ r ∈ rs, r.length = n) (hn : 0 < n) (hcap : rs.length ≤ cap) (hl : rs.length * n ≤ c.size)
    (hc : ∀ i j, i < rs.length → j < n → RelD w (Wrt F ρ objs) (rcell rs i j) (c.getD (i * n + j) undef)) : RelD (w.alloc (.cells c e f)) (Wrt F ρ objs) (.sl rs) (.slice (some ⟨w.heap.size, 0, none⟩) rs.length cap) := by
  by_cases h0 : rs = []
  · subst h0; exact .sl0 _ _
  · refine .sl rs w.heap.size 0 n cap (fun i j => c.getD (i * n + j) undef) h0 hn (fun hb => by have := Wrt.lt h hb; omega) hrow (fun i j hi hj => ?_) (fun i j hi hj => ?_) hcap
    · have : i * n + n ≤ rs.length * n := by
        have := Nat.mul_le_mul_right n (show i + 1 ≤ rs.length by omega)
        rwa [Nat.add_mul, Nat.one_mul] at this
      rw [Nat.zero_add]
      exact cell_of_heap (alloc_heap_new' _ _) (by omega)
    · exact (hc i j hi hj).stay (fun b hb _ => (frm_alloc (fun _ => False) w _).same b hb (fun h => h)) fun _ _ hw => hw

theorem callO_ok {P : Program} {tbl : Tbl} (ht : TblOk P tbl) {Fe : Fence} {n : Nat} (hFe : Wide Fe) {F : Fr} {ρ : Nat → Option (Nat × Nat)} {σ : AS} {a : Act} {w : World} (h : Rel F ρ σ a w)
    {o : Oper} (hd : ∀ t, o.dst = some t → t < F.nt) (hdef : ∀ c, o.op ≠ .defer c) {g : Nat} {args : List AV} {cargs : Array Value} (hsz : cargs.size = args.length)
    (hargs : ∀ i, i < args.length → RelV w (Wrt F ρ σ.objs) ρ σ.objs (args.getD i .undef) (cargs.getD i undef))
    (hrun : (∀ cargs w, (callFunc g cargs).run P w = .ok (.enter g cargs) w) → (execOp a.eval o).run P w = .ok (.enter g cargs) w) {r : AV × List AObj} (hr : callO tbl g args σ.objs = some r) : OpOk P Fe n F o (σ.res o.dst r) a w := by
  unfold callO at hr
  split at hr
  · generalize reachN σ.objs σ.objs.length (addL [] (idsL args)) = locs at hr
    split at hr
    · rename_i hl
      simp only [Bool.and_eq_true] at hl
      obtain ⟨hl, hids⟩ := hl
      split at hr
      · rename_i r' ol ho
        cases hr
        obtain ⟨hent, hfn⟩ := ht.o _ _ _ _ _ ho
        obtain ⟨hin, hWin⟩ := h.hp.enter hl
        have hfn' := hfn (callF F ρ σ.objs locs w) (locR ρ locs) w cargs rfl rfl rfl hin (by rw [renL_length]; exact hsz) (fun i hi => by
          rw [renL_length] at hi
          rw [renL_getD]
          exact (hargs i hi).loc hl (allIdL_getD hids i) fun b _ hn hw => hn (hWin b hw))
        intro K Q hK
        refine ⟨fun f _ => hFe.fn f, ?_⟩
        rw [Oper.semAt_eq _ _ _ hdef, hrun hent]
        refine ⟨fun hd => by simp [hFe.depth] at hd, hFe.calls (hfn'.mono ?_)⟩
        rintro e w' ⟨cv, ρl, rfl, hH, hv⟩
        obtain ⟨k1, k2, k3, k4, k5⟩ := h.hp.back hl hH
        have hrel : Rel F (backR σ.objs.length locs ρ ρl) ⟨σ.tmps, backO σ.objs locs ol⟩ a w' := ⟨h.nt, h.ds.stay h.hp k2, fun t => (h.tm t).stay k2 k4 k3, k1⟩
        exact hK _ _ _ (hrel.puto hd (k5 _ _ hv))
      · cases hr
    · cases hr
  · split at hr
    · rename_i r' ho
      cases hr
      obtain ⟨hent, hcl, hfn⟩ := ht.c _ _ _ ho
      have hfn' := hfn (fun b => Wrt F ρ σ.objs b ∧ b < w.heap.size) w cargs (fun b hb => hb.2) hsz
        (fun i hi => (hargs i hi).lift (hcl i hi) (fun b _ hb hb2 => hb hb2.1))
      intro K Q hK
      refine ⟨fun f _ => hFe.fn f, ?_⟩
      rw [Oper.semAt_eq _ _ _ hdef, hrun hent]
      refine ⟨fun hd => by simp [hFe.depth] at hd, hFe.calls (hfn'.mono ?_)⟩
      rintro e w' ⟨cv, rfl, hv, hfr⟩
      exact hK ρ _ _ ((h.world hfr).puto hd (lift_of_nil hv (fun b hb hn hw => hn ⟨hw, Wrt.lt h.hp hw⟩)))
    · cases hr


theorem buildSlice_run {P : Program} {w : World} {t e : TypeId} {len n : Nat} {parts : Array (Nat × Value)} {zc c' : Array Value} (hue : P.underlying t = some (.slice e)) (hs : (sizeOf e).run P w = .ok n w) (hsm : len * n ≤ 2 ^ 24)
    (hz : if len * n = 0 then zc = #[] else ∃ zv, (zeroValue e).run P w = .ok zv w ∧ zc = zv.cells)
    (hfill : Instr.fill (fun i => some (i * n, n)) ((Array.range (len * n)).map fun k => zc[k % zc.size]!) parts.toList = some c') :
    (Instr.buildSlice t len parts).run P w = .ok (.slice (some ⟨w.heap.size, 0, none⟩) len len) (w.alloc (.cells c' e)) := by
  have hb : ¬ (len * n > 2 ^ 24) := by omega
  unfold Instr.buildSlice
  rw [Sem.run_bind, run_underlying hue]
  simp only [Result.andThen]
  rw [Sem.run_bind, hs]
  simp only [Result.andThen, if_neg hb, pure_bind]
  by_cases h0 : len * n = 0
  · rw [if_pos h0] at hz
    subst hz
    rw [if_pos h0, hfill]
    simp [newRow]
  · rw [if_neg h0] at hz
    obtain ⟨zv, hzv, rfl⟩ := hz
    rw [if_neg h0, Sem.run_bind, hzv]
    simp only [Result.andThen, hfill]
    simp [newRow]

theorem makeSlice_run {P : Program} {w : World} {t e : TypeId} {l c : Int} {n bytes : Nat} {zc : Array Value} {i : TypeInfo} (hue : P.underlying t = some (.slice e)) (hs : (sizeOf e).run P w = .ok n w) (hi : (typeInfo e).run P w = .ok i w) (hb : i.bytes = bytes)
    (h0 : 0 ≤ l) (h1 : l ≤ c) (h2 : c * bytes ≤ 140737488355328) (h3 : c < 9223372036854775808)
    (hz : if c.toNat * n = 0 then zc = #[] else ∃ zv, (zeroValue e).run P w = .ok zv w ∧ zc = zv.cells) :
    (Instr.makeSlice t (.int .i64 l) (.int .i64 c)).run P w = .ok (.slice (some ⟨w.heap.size, 0, none⟩) l.toNat c.toNat) (w.alloc (.cells ((Array.range (c.toNat * n)).map fun k => zc[k % zc.size]!) e)) := by
  have wl : IntKind.i64.wrap l = l := by simp [IntKind.wrap, IntKind.bits, IntKind.signed]; omega
  have wc : IntKind.i64.wrap c = c := by simp [IntKind.wrap, IntKind.bits, IntKind.signed]; omega
  have hbc : bytes * c = c * bytes := Int.mul_comm _ _
  have hbl : (bytes : Int) * l ≤ bytes * c := Int.mul_le_mul_of_nonneg_left h1 (by omega)
  have e48 : (2 : Int) ^ 48 = 281474976710656 := by decide
  by_cases hz0 : c.toNat * n = 0
  · rw [if_pos hz0] at hz
    subst hz
    simp [Instr.makeSlice, run_underlying hue, asInt, asIntOf, hi, hb, wl, wc, hs, askRoom, hz0, newRow, e48, show ¬ c < 0 by omega, show ¬ l < 0 by omega, show ¬ c < l by omega, show ¬ (281474976710656 < (bytes : Int) * c) by omega]
  · rw [if_neg hz0] at hz
    obtain ⟨zv, hzv, rfl⟩ := hz
    simp [Instr.makeSlice, run_underlying hue, asInt, asIntOf, hi, hb, wl, wc, hs, askRoom, hzv, newRow, e48, show ¬ c < 0 by omega, show ¬ l < 0 by omega, show ¬ c < l by omega, show ¬ (281474976710656 < (bytes : Int) * c) by omega]
    intro hh; exact absurd hh hz0

/-- Rows as cells, one behind the other. -/
structure Laid (w : World) (Wr : Nat → Prop) (c : Array Value) (rows : List (List D)) (n : Nat) : Prop where
  size : c.size = rows.length * n
  rowsz : ∀ r ∈ rows, r.length = n
  cells : ∀ i j, i < rows.length → j < n → RelD w Wr (rcell rows i j) (c.getD (i * n + j) undef)

section
variable {F : Fr} {ρ : Nat → Option (Nat × Nat)} {σ : AS} {a : Act} {w : World} (h : Rel F ρ σ a w)
include h

theorem fill_ok {y : TY} : ∀ (parts : List (Nat × Operand)) (c : Array Value) (rows rows' : List (List D)), Laid w (Wrt F ρ σ.objs) c rows y.size → fillA σ.eval y parts rows = some rows' →
    ∃ c', Instr.fill (fun i => some (i * y.size, y.size)) c (parts.map fun (i, x) => (i, a.eval x)) = some c' ∧ Laid w (Wrt F ρ σ.objs) c' rows' y.size := by
  intro parts
  induction parts with
  | nil => intro c rows rows' hl hf; cases hf; exact ⟨c, rfl, hl⟩
  | cons p parts ih =>
    obtain ⟨i, x⟩ := p
    intro c rows rows' hl hf
    simp only [fillA] at hf
    split at hf
    · rename_i cs hcs
      split at hf
      · rename_i ds hds
        split at hf
        · rename_i hi
          have hi := of_decide_eq_true hi
          obtain ⟨h1, h2, h3, h4⟩ := toCells_ok (eval_ok h x) hcs
          obtain ⟨h5, h6⟩ := allD_ok (w := w) (Wr := Wrt F ρ σ.objs) (ρ := ρ) (objs := σ.objs) hds
          have hin : i * y.size + y.size ≤ rows.length * y.size := by
            have := Nat.mul_le_mul_right y.size (show i + 1 ≤ rows.length by omega)
            rwa [Nat.add_mul, Nat.one_mul] at this
          have hl' : Laid w (Wrt F ρ σ.objs) (over c (i * y.size) (a.eval x).cells.toList) (rows.set i ds) y.size := by
            have hgd : ∀ k, (rows.set i ds).getD k [] = if k = i then ds else rows.getD k [] := by
              intro k
              simp only [List.getD_eq_getElem?_getD, List.getElem?_set]
              by_cases hk : k = i
              · subst hk; simp [hi]
              · simp [hk, Ne.symm hk]
            refine ⟨by rw [over_size, hl.size, List.length_set], fun r hr => ?_, fun k j hk hj => ?_⟩
            · rcases List.mem_or_eq_of_mem_set hr with h7 | h7
              · exact hl.rowsz r h7
              · rw [h7]; omega
            · rw [List.length_set] at hk
              rw [over_get _ _ _ _ (by rw [Array.length_toList, h1, hl.size]; exact hin)]
              unfold rcell
              rw [hgd]
              by_cases hki : k = i
              · subst hki
                rw [if_pos rfl, if_pos (by rw [Array.length_toList, h1]; omega)]
                have e1 : k * y.size + j - k * y.size = j := by omega
                rw [e1]
                have h8 := h6 j (by omega) _ (h3 j (by omega))
                have e2 : (a.eval x).cells.toList.getD j undef = (a.eval x).cells.getD j undef := by
                  simp [List.getD_eq_getElem?_getD, Array.getD_eq_getD_getElem?]
                rw [e2]; exact h8
              · rw [if_neg hki]
                have : ¬ (i * y.size ≤ k * y.size + j ∧ k * y.size + j < i * y.size + (a.eval x).cells.toList.length) := by
                  rw [Array.length_toList, h1]
                  rcases Nat.lt_or_gt_of_ne hki with hlt | hgt
                  · have := row_lt hlt hj; omega
                  · have := Nat.mul_le_mul_right y.size (show i + 1 ≤ k by omega)
                    rw [Nat.add_mul, Nat.one_mul] at this
                    omega
                rw [if_neg this]
                exact hl.cells k j hk hj
          obtain ⟨c', hc', hlc⟩ := ih _ _ _ hl' hf
          refine ⟨c', ?_, hlc⟩
          simp only [List.map_cons, Instr.fill]
          rw [if_neg (by
            simp only [h1, hl.size, ne_eq, not_true_eq_false, decide_false, Bool.false_or, decide_eq_true_eq, gt_iff_lt]
            omega)]
          rw [foldA_over]
          exact hc'
        · cases hf
      · cases hf
    · cases hf

/-- New rows of zeros. -/
theorem laid_zero {y : TY} {z : List D} {zc : Array Value} (hz : ∀ i, i < z.length → RelD w (Wrt F ρ σ.objs) (z.getD i .nilp) (zc.getD i undef)) (hzl : z.length = y.size) (hzc : zc.size = y.size) (m : Nat) (c : Array Value)
    (hc : c.size = m * y.size) (hcg : ∀ k, k < m * y.size → c.getD k undef = zc.getD (k % y.size) undef) : Laid w (Wrt F ρ σ.objs) c (List.replicate m z) y.size := by
  refine ⟨by simp [hc], fun r hr => by rw [(List.mem_replicate.1 hr).2]; exact hzl, fun i j hi hj => ?_⟩
  have hi' : i < m := by simpa using hi
  have hk := row_lt hi' hj
  rw [hcg _ hk]
  have : (i * y.size + j) % y.size = j := by rw [Nat.mul_comm, Nat.mul_add_mod, Nat.mod_eq_of_lt hj]
  rw [this]
  have e1 : rcell (List.replicate m z) i j = z.getD j .nilp := by
    unfold rcell
    rw [getD_get _ _ hi]
    simp
  rw [e1]
  exact hz j (by omega)

variable {P : Program} {T : Nat → Option TY} {tbl : Tbl} (hT : TOk P T)
include hT

theorem copy_ok {t u ty : Nat} {y : TY} (hy : elemT T t = some y) {id off len gen n g : Nat} {rs : List (List D)} (ho : σ.objs[id]? = some (.arr rs n g)) {x : AV} {vs vx : Value} {R : List (List D)}
    (hs : RelV w (Wrt F ρ σ.objs) ρ σ.objs (.win id off len gen) vs) (hx : RelV w (Wrt F ρ σ.objs) ρ σ.objs x vx) (hR : srcA x σ.objs = some R) (hrow : ∀ r ∈ R, r.length = y.size) (h0 : 0 < y.size) (hg : gen = g) (hn : n = y.size)
    (hfits : off + len ≤ rs.length) : ∃ w' ρ', (Builtin.copy_ #[t, u] ty #[vs, vx]).run P w = .ok (.int .i64 (min R.length len : Nat)) w' ∧ Rel F ρ' ⟨σ.tmps, σ.objs.set id (.arr (setR rs off (R.take len)) n g)⟩ a w' := by
  obtain ⟨e, hue, hte⟩ := elemT_spec hT hy
  subst hn
  obtain ⟨hlen, vals, h1, hone, h3, h4, hvals⟩ := src_ok (P := P) hT h hx hR h0 hrow
  have hf := h3 (min R.length len) (Nat.min_le_left _ _)
  have htl : (R.take len).length = min R.length len := by simp [Nat.min_comm]
  have hvl : (vals.take (min R.length len * y.size)).length = min R.length len * y.size := by
    rw [List.length_take, h1]
    have := Nat.mul_le_mul_right y.size (Nat.min_le_left R.length len)
    omega
  cases hs with
  | win _ _ _ _ _ o' ho' hge hsl hwin =>
    rw [ho] at ho'; cases ho'
    obtain ⟨hfit, p, cap, rfl, hcap, hpl⟩ := hwin hg
    simp only [AObj.rows, AObj.sz, List.length_map] at hfit hcap hpl
    by_cases hm : min R.length len = 0
    · have hv0 : vals.take (min R.length len * y.size) = [] := List.eq_nil_of_length_eq_zero (by rw [hvl, hm, Nat.zero_mul])
      have hR0 : R.take len = [] := List.eq_nil_of_length_eq_zero (by rw [htl, hm])
      have hset : σ.objs.set id (.arr (setR rs off (R.take len)) y.size g) = σ.objs := by
        rw [hR0]
        have : setR rs off [] = rs := by simp [setR]
        rw [this]
        apply List.ext_getElem?
        intro k
        rw [List.getElem?_set]
        split
        · rename_i hk
          subst hk
          rw [if_pos (List.getElem?_eq_some_iff.1 ho).1]
          exact ho.symm
        · rfl
      refine ⟨w, ρ, ?_, by rw [hset]; exact h⟩
      rw [hv0] at hf
      cases p with
      | none => simp [Builtin.copy_, run_underlying hue, hT.sizeOf hte, hlen, hf, goInt]
      | some pa => simp [Builtin.copy_, run_underlying hue, hT.sizeOf hte, hlen, hf, goInt, storeCells]
    · rcases hpl with hc0 | ⟨b, δ, c, e', f, hρ, rfl, hbk, hle⟩
      · omega
      · obtain ⟨c', e'', f', hb', hf', hsz', hcell⟩ := arr_cell h ho hρ
        rw [hbk] at hb'; cases hb'
        have hfits' : off + (R.take len).length ≤ rs.length := by rw [htl]; omega
        have hm1 : off * y.size + min R.length len * y.size ≤ rs.length * y.size := by
          rw [← Nat.add_mul]; exact Nat.mul_le_mul_right _ (by omega)
        have hst := run_storeCells_block (P := P) (vals.take (min R.length len * y.size)) w c (δ + off * y.size) 0 hbk (by omega) hf' (fun u hu => hone u (List.mem_of_mem_take hu))
        have hsl := setR_length rs off (R.take len) hfits'
        have hrel := h.write (o' := .arr (setR rs off (R.take len)) y.size g) (c' := over c (δ + off * y.size + 0) (vals.take (min R.length len * y.size))) ho hρ hbk (over_size _ _ _) rfl rfl (by simp [AObj.rows, hsl]) (by
            simp only [AObj.rows, AObj.sz]
            intro r hr'
            obtain ⟨r', hr'', rfl⟩ := List.mem_map.1 hr'
            rw [List.length_map]
            obtain ⟨k, hk, rfl⟩ := List.mem_iff_getElem.1 hr''
            rw [← getD_get _ _ hk [], setR_get _ _ _ _ hfits']
            split
            · rename_i h6
              exact hrow _ (by rw [getD_get _ _ (by omega)]; exact List.mem_of_mem_take (List.getElem_mem _))
            · exact arr_len h ho (by omega)) (fun i j hi hj => by
            simp only [AObj.rows, List.length_map, hsl] at hi
            simp only [AObj.sz] at hj ⊢
            have hrl : ((setR rs off (R.take len)).getD i []).length = y.size := by
              rw [setR_get _ _ _ _ hfits']
              split
              · rename_i h6
                exact hrow _ (by rw [getD_get _ _ (by omega)]; exact List.mem_of_mem_take (List.getElem_mem _))
              · exact arr_len h ho hi
            rw [acell_arr _ _ _ _ _ (by rw [hsl]; exact hi) (by rw [hrl]; exact hj)]
            refine .d _ _ ?_
            rw [over_get _ _ _ _ (by omega), Nat.add_zero]
            unfold rcell
            rw [setR_get _ _ _ _ hfits']
            by_cases h6 : off ≤ i ∧ i < off + (R.take len).length
            · rw [if_pos h6]
              rw [htl] at h6
              have h9 := row_lt (show i - off < min R.length len by omega) hj
              have h8 : i * y.size = (i - off) * y.size + off * y.size := by rw [← Nat.add_mul]; congr 1; omega
              rw [if_pos (by omega)]
              have e2 : δ + (i * y.size + j) - (δ + off * y.size) = (i - off) * y.size + j := by omega
              rw [e2]
              have h10 := hvals (i - off) j (by omega) hj
              unfold rcell at h10
              have e3 : (R.take len).getD (i - off) [] = R.getD (i - off) [] := by
                simp only [List.getD_eq_getElem?_getD]
                rw [List.getElem?_take_of_lt (by omega)]
              have e4 : (vals.take (min R.length len * y.size)).getD ((i - off) * y.size + j) undef = vals.getD ((i - off) * y.size + j) undef := by
                simp only [List.getD_eq_getElem?_getD]
                rw [List.getElem?_take_of_lt (by omega)]
              rw [e3, e4]; exact h10
            · rw [if_neg h6]
              rw [htl] at h6
              have : ¬ (δ + off * y.size ≤ δ + (i * y.size + j) ∧ δ + (i * y.size + j) < δ + off * y.size + (vals.take (min R.length len * y.size)).length) := by
                rw [hvl]
                rcases Nat.lt_or_ge i off with h10 | h10
                · have := row_lt h10 hj; omega
                · have := Nat.mul_le_mul_right y.size (show off + min R.length len ≤ i by omega)
                  rw [Nat.add_mul] at this
                  omega
              rw [if_neg this]
              exact hcell i j hi hj)
        refine ⟨_, ρ, ?_, hrel.1⟩
        simp [Builtin.copy_, run_underlying hue, hT.sizeOf hte, hlen, hf, hst, goInt]

/-- Rows are laid over some of an array's. -/
theorem put_ok {id off len gen n g : Nat} {rs : List (List D)} {y : TY} (ho : σ.objs[id]? = some (.arr rs n g)) {vs : Value} {R : List (List D)} {vals : List Value}
    (hs : RelV w (Wrt F ρ σ.objs) ρ σ.objs (.win id off len gen) vs) (hrow : ∀ r ∈ R, r.length = y.size) (h0 : 0 < y.size) (hg : gen = g) (hn : n = y.size) (hRl : R.length = len) (hm : ¬ len = 0)
    (h1 : vals.length = R.length * y.size) (hone : ∀ v ∈ vals, v.oneCell' = true) (hvals : ∀ i j, i < R.length → j < y.size → RelD w (Wrt F ρ σ.objs) (rcell R i j) (vals.getD (i * y.size + j) undef))
    (hfits : off + len ≤ rs.length) : ∃ w' ρ' pa cap, vs = .slice (some pa) len cap ∧ (storeCells pa vals).run P w = .ok () w' ∧ Rel F ρ' ⟨σ.tmps, σ.objs.set id (.arr (setR rs off R) n g)⟩ a w' := by
  subst hn
  cases hs with
  | win _ _ _ _ _ o' ho' hge hsl hwin =>
    rw [ho] at ho'; cases ho'
    obtain ⟨hfit, p, cap, rfl, hcap, hpl⟩ := hwin hg
    simp only [AObj.rows, AObj.sz, List.length_map] at hfit hcap hpl
    rcases hpl with hc0 | ⟨b, δ, c, e', f, hρ, rfl, hbk, hle⟩
    · omega
    · obtain ⟨c', e'', f', hb', hf', hsz', hcell⟩ := arr_cell h ho hρ
      rw [hbk] at hb'; cases hb'
      have hfits' : off + R.length ≤ rs.length := by omega
      have hvl := h1
      have hm1 : off * y.size + R.length * y.size ≤ rs.length * y.size := by
        rw [← Nat.add_mul]; exact Nat.mul_le_mul_right _ (by omega)
      have hst := run_storeCells_block (P := P) vals w c (δ + off * y.size) 0 hbk (by omega) hf' hone
      have hsl := setR_length rs off R hfits'
      have hrel := h.write (o' := .arr (setR rs off R) y.size g) (c' := over c (δ + off * y.size + 0) vals) ho hρ hbk (over_size _ _ _) rfl rfl (by simp [AObj.rows, hsl]) (by
          simp only [AObj.rows, AObj.sz]
          intro r hr'
          obtain ⟨r', hr'', rfl⟩ := List.mem_map.1 hr'
          rw [List.length_map]
          obtain ⟨k, hk, rfl⟩ := List.mem_iff_getElem.1 hr''
          rw [← getD_get _ _ hk [], setR_get _ _ _ _ hfits']
          split
          · rename_i h6
            exact hrow _ (by rw [getD_get _ _ (by omega)]; exact List.getElem_mem _)
          · exact arr_len h ho (by omega)) (fun i j hi hj => by
          simp only [AObj.rows, List.length_map, hsl] at hi
          simp only [AObj.sz] at hj ⊢
          have hrl : ((setR rs off R).getD i []).length = y.size := by
            rw [setR_get _ _ _ _ hfits']
            split
            · rename_i h6
              exact hrow _ (by rw [getD_get _ _ (by omega)]; exact List.getElem_mem _)
            · exact arr_len h ho hi
          rw [acell_arr _ _ _ _ _ (by rw [hsl]; exact hi) (by rw [hrl]; exact hj)]
          refine .d _ _ ?_
          rw [over_get _ _ _ _ (by omega), Nat.add_zero]
          unfold rcell
          rw [setR_get _ _ _ _ hfits']
          by_cases h6 : off ≤ i ∧ i < off + R.length
          · rw [if_pos h6]
            have h9 := row_lt (show i - off < R.length by omega) hj
            have h8 : i * y.size = (i - off) * y.size + off * y.size := by rw [← Nat.add_mul]; congr 1; omega
            rw [if_pos (by omega)]
            have e2 : δ + (i * y.size + j) - (δ + off * y.size) = (i - off) * y.size + j := by omega
            rw [e2]
            have h10 := hvals (i - off) j (by omega) hj
            unfold rcell at h10
            exact h10
          · rw [if_neg h6]
            have : ¬ (δ + off * y.size ≤ δ + (i * y.size + j) ∧ δ + (i * y.size + j) < δ + off * y.size + vals.length) := by
              rw [hvl]
              rcases Nat.lt_or_ge i off with h10 | h10
              · have := row_lt h10 hj; omega
              · have := Nat.mul_le_mul_right y.size (show off + R.length ≤ i by omega)
                rw [Nat.add_mul] at this
                omega
            rw [if_neg this]
            exact hcell i j hi hj)
      exact ⟨_, ρ, _, cap, rfl, hst, hrel.1⟩

theorem clear_ok {t ty : Nat} {y : TY} (hy : elemT T t = some y) {z : List D} (hz : allD y.zero = some z) {id off len gen n g : Nat} {rs : List (List D)} (ho : σ.objs[id]? = some (.arr rs n g)) {vs : Value}
    (hs : RelV w (Wrt F ρ σ.objs) ρ σ.objs (.win id off len gen) vs) (h0 : 0 < y.size) (hg : gen = g) (hn : n = y.size)
    (hfits : off + len ≤ rs.length) : ∃ w' ρ', (Builtin.clear_ #[t] ty #[vs]).run P w = .ok (.tuple #[]) w' ∧ Rel F ρ' ⟨σ.tmps, σ.objs.set id (.arr (setR rs off (List.replicate len z)) n g)⟩ a w' := by
  obtain ⟨e, hue, hte⟩ := elemT_spec hT hy
  by_cases hm : len = 0
  · subst hm
    have hset : σ.objs.set id (.arr (setR rs off (List.replicate 0 z)) n g) = σ.objs := by
      have : setR rs off (List.replicate 0 z) = rs := by simp [setR]
      rw [this]
      apply List.ext_getElem?
      intro k
      rw [List.getElem?_set]
      split
      · rename_i hk
        subst hk
        rw [if_pos (List.getElem?_eq_some_iff.1 ho).1]
        exact ho.symm
      · rfl
    refine ⟨w, ρ, ?_, by rw [hset]; exact h⟩
    cases hs with
    | win _ _ _ _ _ o' ho' hge hsl hwin =>
      rw [ho] at ho'; cases ho'
      obtain ⟨hfit, p, cap, rfl, hcap, hpl⟩ := hwin hg
      cases p <;> simp [Builtin.clear_, run_underlying hue]
  · obtain ⟨zv, hzv, hzo, hzs⟩ := hT.zeroRun hte w
    obtain ⟨_, i0, hi0, hsz0, hb0, z0, hz0, hzo0, hzl0⟩ := hT e y hte
    obtain ⟨h5, h6⟩ := allD_ok (w := w) (Wr := Wrt F ρ σ.objs) (ρ := ρ) (objs := σ.objs) hz
    have hlz := laid_zero h (y := y) (z := z) (zc := zv.cells) (fun i hi => h6 i (by omega) _ (hzo.2 i (by omega) _ _ _ _)) (by omega) hzs len (Builtin.zeroCells zv.cells len) (by simp [Builtin.zeroCells, hzs]) (fun k hk => by
      have hlt : k % y.size < zv.cells.size := by rw [hzs]; exact Nat.mod_lt _ h0
      have hk2 : k < len * zv.cells.size := by rw [hzs]; exact hk
      have e1 : (Builtin.zeroCells zv.cells len).getD k undef = zv.cells[k % y.size]'hlt := by
        simp only [Builtin.zeroCells, hzs]
        simp [Array.getD_eq_getD_getElem?, hk, hlt]
      rw [e1]
      simp [Array.getD_eq_getD_getElem?, hlt])
    have hvl : (Builtin.zeroCells zv.cells len).toList.length = (List.replicate len z).length * y.size := by
      rw [Array.length_toList]; exact hlz.size
    have hgd : ∀ k, (Builtin.zeroCells zv.cells len).toList.getD k undef = (Builtin.zeroCells zv.cells len).getD k undef := by
      intro k; simp [List.getD_eq_getElem?_getD, Array.getD_eq_getD_getElem?]
    obtain ⟨w', ρ', pa, cap, rfl, hrun, hrel⟩ := put_ok (P := P) h hT (y := y) (R := List.replicate len z) (vals := (Builtin.zeroCells zv.cells len).toList) ho hs hlz.rowsz h0 hg hn (by simp) hm hvl
      (fun v hv => by
        obtain ⟨k, hk, rfl⟩ := List.mem_iff_getElem.1 hv
        have hk2 : k < len * y.size := by rw [hvl, List.length_replicate] at hk; exact hk
        have h7 : k / y.size < len := Nat.div_lt_of_lt_mul (by rw [Nat.mul_comm]; exact hk2)
        have h8 := hlz.cells (k / y.size) (k % y.size) (by simpa using h7) (Nat.mod_lt _ h0)
        rw [Nat.div_add_mod', ← hgd, List.getD_eq_getElem?_getD, List.getElem?_eq_getElem hk] at h8
        exact h8.one.1)
      (fun i j hi hj => by rw [hgd]; exact hlz.cells i j hi hj) hfits
    refine ⟨w', ρ', ?_, hrel⟩
    simp [Builtin.clear_, run_underlying hue, hzv, hrun]

omit h hT in
theorem rcell_bytes (l : List UInt8) (i : Nat) (hi : i < l.length) : rcell (l.map fun b => [D.int .u8 (b.toNat : Int)]) i 0 = .int .u8 (l[i].toNat : Int) := by simp [rcell, List.getD_eq_getElem?_getD, hi]

omit h in
theorem u8T_spec {src dst : Nat} (h : u8T T src dst = true) : P.underlying src = some .string ∧ ∃ e i, P.underlying dst = some (.slice e) ∧ P.underlying e = some (.int .u8) ∧ T e = some i ∧ i.size = 1 := by
  unfold u8T at h
  split at h
  · rename_i e _ _ _ h1 h2
    split at h
    · rename_i _ _ h3
      exact ⟨hT.under h1, e, _, hT.under h2, hT.under h3, h3, rfl⟩
    · cases h
  · cases h

omit h in
theorem bytes_run {src dst : Nat} (hty : u8T T src dst = true) (s : ByteArray) : ∃ (e : TypeId) (c : Array Value) (cap : Nat) (f : Nat × Nat),
    (convert src dst (.string s)).run P w = .ok (.slice (some ⟨w.heap.size, 0, none⟩) s.data.toList.length cap) (w.drew.alloc (.cells c e f)) ∧ s.data.toList.length ≤ cap ∧
    (∀ i (hi : i < s.data.toList.length), c.getD i undef = .int .u8 (s.data.toList[i].toNat : Int)) ∧ cap ≤ c.size ∧ ∀ i, i < c.size → ¬ (f.1 ≤ i ∧ i < f.2) := by
  obtain ⟨h1, e, _, h2, h3, _, _⟩ := u8T_spec hT hty
  have hge := grownCap_ge w s.size 0 e
  have hsz : s.data.toList.length = s.size := rfl
  refine ⟨e, _, _, _, run_bytes_of_string w src dst e s h1 h2 h3, by rw [hsz]; exact hge, fun i hi => ?_, ?_, fun i hi => ?_⟩
  · have := bytesRow_at s (grownCap w s.size 0 e) i (by simpa using hi)
    rw [Array.getD_eq_getD_getElem?, this]
    simp
  · simp [bytesRow]
    have : s.data.size = s.size := rfl
    omega
  · simp; omega

theorem byteD_of {Wr : Nat → Prop} {r : List D} {v : Value} (hb : isByteD r = true) (hd : RelD w Wr (r.getD 0 .nilp) v) : r.length = 1 ∧ ∃ n : Int, v = .int .u8 n ∧ byteD r = UInt8.ofNat n.toNat := by
  unfold isByteD at hb
  split at hb
  · rename_i n
    simp at hd
    cases hd
    exact ⟨rfl, n, rfl, rfl⟩
  · cases hb

omit h hT in
theorem allByte_get : ∀ {R : List (List D)}, allByte R = true → ∀ r ∈ R, isByteD r = true := by
  intro R
  induction R with
  | nil => intro _ r hr; cases hr
  | cons x l ih =>
    intro h r hr
    simp only [allByte, Bool.and_eq_true] at h
    rcases List.mem_cons.1 hr with rfl | hr
    · exact h.1
    · exact ih h.2 r hr

theorem strA_ok {src dst : Nat} {x v : AV} {cv : Value} (hx : RelV w (Wrt F ρ σ.objs) ρ σ.objs x cv) (hv : strA T src dst x σ.objs = some v) :
    ∃ u, (convert src dst cv).run P w = .ok u w ∧ RelV w (Wrt F ρ σ.objs) ρ σ.objs v u := by
  unfold strA at hv
  split at hv
  · rename_i hty
    obtain ⟨h1, e, y, h2, h3, h4, h5⟩ := u8T_spec (P := P) hT hty
    have gen : ∀ R, (∀ l, x ≠ .d (.str l)) → srcA x σ.objs = some R → (if allByte R = true then some (AV.d (.str (R.map byteD))) else none) = some v → ∃ u, (convert src dst cv).run P w = .ok u w ∧ RelV w (Wrt F ρ σ.objs) ρ σ.objs v u := by
      intro R hne hR hv
      obtain ⟨hall, rfl⟩ := ite_some hv
      have hrow : ∀ r ∈ R, r.length = y.size := by
        intro r hr
        have := allByte_get hall r hr
        unfold isByteD at this
        split at this
        · simp [h5]
        · cases this
      obtain ⟨hlen, vals, k1, k2, k3, k4, k5⟩ := src_ok (P := P) hT h hx hR (by omega) hrow
      rw [h5] at k1 k3 k5
      have k3 := k3 R.length (Nat.le_refl _)
      rw [← k1, List.take_length] at k3
      have hsl : ∃ pa cap, cv = .slice pa R.length cap := by
        cases cv <;> simp [Builtin.lenOf] at hlen <;> try (cases hx; done)
        all_goals first | (subst hlen; exact ⟨_, _, rfl⟩) | skip
        all_goals (exfalso; unfold srcA at hR; split at hR <;> first | (cases hx; done) | (cases hR; done) | skip)
        all_goals first | (cases hx with | d _ _ hx => cases hx; done) | skip
        all_goals first | exact hne _ rfl | (cases hx with | win _ _ _ _ _ _ _ _ hs _ => obtain ⟨_, _, hs⟩ := hs; cases hs)
      obtain ⟨pa, cap, rfl⟩ := hsl
      have hnums : ∃ xs : List Int, vals = xs.map (Value.int .u8) ∧ R.map byteD = xs.map fun n => UInt8.ofNat n.toNat := by
        have key : ∀ (R : List (List D)) (vals : List Value), (∀ r ∈ R, isByteD r = true) → vals.length = R.length → (∀ i, i < R.length → RelD w (Wrt F ρ σ.objs) (rcell R i 0) (vals.getD i undef)) →
            ∃ xs : List Int, vals = xs.map (Value.int .u8) ∧ R.map byteD = xs.map fun n => UInt8.ofNat n.toNat := by
          intro R
          induction R with
          | nil => intro vals _ hl _; exact ⟨[], by simpa using hl, rfl⟩
          | cons r R ih =>
            intro vals hb hl hr
            cases vals with
            | nil => simp at hl
            | cons u vals =>
              obtain ⟨xs, e1, e2⟩ := ih vals (fun r hr => hb r (List.mem_cons_of_mem _ hr)) (by simpa using hl) (fun i hi => by simpa [rcell] using hr (i + 1) (by simpa using hi))
              obtain ⟨_, n, hn, hbn⟩ := byteD_of h hT (hb r (List.mem_cons_self ..)) (by simpa [rcell] using hr 0 (by simp))
              exact ⟨n :: xs, by rw [hn, e1]; rfl, by simp [hbn, e2]⟩
        exact key R vals (allByte_get hall) (by omega) (fun i hi => by have := k5 i 0 hi (by omega); simpa using this)
      obtain ⟨xs, e1, e2⟩ := hnums
      refine ⟨.string (strOfNums xs), ?_, .d _ _ (.str _ _ (by rw [strOfNums_data, e2]))⟩
      rw [run_convert_bytes_string w src dst e _ _ _ h2 h3 h1]
      have hxl : xs.length = R.length := by have := congrArg List.length e1; simp at this; omega
      cases pa with
      | none =>
        simp only [Builtin.firstCells] at k3
        have hR0 : vals = [] := by
          have := k3
          simp at this
          exact this.symm ▸ rfl
        rw [hR0] at e1
        have : xs = [] := by simpa using e1.symm
        subst this
        simp [Conv.bytesToString, strOfNums]
        rfl
      | some ad =>
        simp only [Builtin.firstCells, Nat.mul_one] at k3
        rw [e1] at k3
        rw [run_bytesToString w ad R.length cap xs k3, foldl_push_bytes]
        simp [strOfNums, ByteArray.empty, ByteArray.emptyWithCapacity]
        rfl
    split at hv
    · cases hv
    · rename_i hne
      split at hv
      · rename_i R hR
        exact gen R (fun l hl => hne l hl) hR hv
      · cases hv
  · cases hv

omit h hT in
theorem flat_zero {n : Nat} {z : List AV} (hz : z.length = n) : ∀ {len : Nat} (k : Nat), k < len * n → ((List.replicate len z).flatten).getD k .undef = z.getD (k % n) .undef
  | 0, k, h => by simp at h
  | len + 1, k, h => by
    rw [List.replicate_succ, List.flatten_cons, getD_append]
    split
    · rename_i hk
      rw [Nat.mod_eq_of_lt (by omega)]
    · rename_i hk
      rw [hz] at hk ⊢
      rw [Nat.add_mul, Nat.one_mul] at h
      rw [flat_zero hz (k - n) (by omega), ← Nat.mod_eq_sub_mod (by omega)]
omit h hT in
theorem buildA_length {pl : Nat → Option (Nat × TY)} {ev : Env} : ∀ (l : List (Nat × Operand)) (cells : List AV) {cells' : List AV}, buildA pl ev l cells = some cells' → cells'.length = cells.length
  | [], cells, cells', h => by cases h; rfl
  | (i, x) :: l, cells, cells', h => by
    simp only [buildA] at h
    split at h
    · split at h
      · split at h
        · rename_i hd
          rw [buildA_length l _ h, setR_length _ _ _ (of_decide_eq_true hd)]
        · cases h
      · cases h
    · cases h

omit hT in
/-- New rows of any cells. -/
theorem new_arv {cells : List AV} {n len : Nat} {c : Array Value} {e : TypeId} (hn : 0 < n) (hl : cells.length = len * n) (hcl : cells.length = c.size)
    (hc : ∀ i, i < cells.length → RelV w (Wrt F ρ σ.objs) ρ σ.objs (cells.getD i .undef) (c.getD i undef)) :
    ∃ ρ', Rel F ρ' ⟨σ.tmps, σ.objs ++ [.arv cells n 1]⟩ a (w.alloc (.cells c e)) ∧
      RelV (w.alloc (.cells c e)) (Wrt F ρ' (σ.objs ++ [.arv cells n 1])) ρ' (σ.objs ++ [.arv cells n 1]) (.win σ.objs.length 0 len 1) (.slice (some ⟨w.heap.size, 0, none⟩) len len) := by
  have hrl : (AObj.arv cells n 1).rows.length = len := by
    show (chunks n cells).length = len
    simp [chunks, hl, Nat.mul_div_cancel _ hn]
  obtain ⟨h1, h2⟩ := h.new (o := .arv cells n 1) (c := c) (e := e) (f := (0, 0)) chunks_row (by intro i _; omega) (by rw [hrl]; show len * n ≤ c.size; omega) (fun i j hi hj => by
    have hi' : i < (chunks n cells).length := hi
    have hj' : j < n := hj
    show RelV _ _ _ _ (acell (chunks n cells) i j) (c.getD (i * n + j) undef)
    rw [chunks_cell hi' hj']
    have h3 := (chunks_get hi').2
    rw [Nat.add_mul, Nat.one_mul] at h3
    exact hc _ (by omega))
  refine ⟨_, h1, .win _ _ _ _ _ (.arv cells n 1) (by simp) (Nat.le_refl _) ⟨_, _, rfl⟩ fun _ => ⟨by rw [hrl]; omega, some ⟨w.heap.size, 0, none⟩, len, rfl, ⟨Nat.le_refl _, .inr (by rw [hrl]; omega)⟩, .inr ⟨w.heap.size, 0, c, e, (0, 0), by simp [upd], by simp, alloc_heap_new' _ _, by
    show 0 + (0 + len) * n ≤ c.size
    rw [Nat.zero_add, Nat.zero_add]; omega⟩⟩⟩

theorem aDo_ok (ht : TblOk P tbl) {Fe : Fence} {n : Nat} (hFe : Wide Fe) {o : Oper} (hd : ∀ t, o.dst = some t → t < F.nt) {r : AV × List AObj} (hr : aDo T tbl o.op σ.eval σ.objs = some r) : OpOk P Fe n F o (σ.res o.dst r) a w := by
  have he : ∀ x, RelV w (Wrt F ρ σ.objs) ρ σ.objs (σ.eval x) (a.eval x) := eval_ok h
  cases hop : o.op <;> rw [hop] at hr <;> simp only [aDo] at hr <;> first | (cases hr; done) | skip
  case box el x =>
    split at hr
    · rename_i ds hx
      cases hr
      have hx' := he x
      rw [hx] at hx'
      generalize hcx : a.eval x = cx at hx'
      cases hx' with
      | ar _ vs hl hrr =>
        obtain ⟨ρ', hrel, hv⟩ := new_rows h (c := vs) (e := el) hl hrr
        exact opOk_do hFe hd (by simp [hop]) hrel (cv := .pointer (some ⟨w.heap.size, 0, none⟩)) (by simp [execOp, hop, hcx, Instr.box, newVar, newRow, Value.cells]) hv
    · split at hr
      · rename_i y hty
        split at hr
        · rename_i cs hcs
          obtain ⟨h1, h2, h3, h4⟩ := toCells_ok (he x) hcs
          split at hr
          · split at hr
            · rename_i ds hds
              cases hr
              obtain ⟨h5, h6⟩ := allD_ok (w := w) (Wr := Wrt F ρ σ.objs) (ρ := ρ) (objs := σ.objs) hds
              obtain ⟨ρ', hrel, hv⟩ := new_rows h (ds := ds) (c := (a.eval x).cells) (e := el) (by omega) (fun i hi => h6 i (by omega) _ (h3 i (by omega)))
              exact opOk_do hFe hd (by simp [hop]) hrel (cv := .pointer (some ⟨w.heap.size, 0, none⟩)) (by simp [execOp, hop, Instr.box, newVar, newRow]) hv
            · cases hr
          · cases hr
            obtain ⟨ρ', hrel, hv⟩ := new_var h (c := (a.eval x).cells) (e := el) (by omega) h3
            exact opOk_do hFe hd (by simp [hop]) hrel (cv := .pointer (some ⟨w.heap.size, 0, none⟩)) (by simp [execOp, hop, Instr.box, newVar, newRow]) hv
        · cases hr
      · cases hr
  case alloc el =>
    split at hr
    · rename_i y hty
      obtain ⟨z, hz, hzo, hzs⟩ := hT.zeroRun hty w
      split at hr
      · split at hr
        · rename_i ds hds
          cases hr
          obtain ⟨h5, h6⟩ := allD_ok (w := w) (Wr := Wrt F ρ σ.objs) (ρ := ρ) (objs := σ.objs) hds
          obtain ⟨ρ', hrel, hv⟩ := new_rows h (ds := ds) (c := z.cells) (e := el) (by rw [h5]; exact hzo.1) (fun i hi => h6 i (by omega) _ (hzo.2 i (by omega) _ _ _ _))
          exact opOk_do hFe hd (by simp [hop]) hrel (cv := .pointer (some ⟨w.heap.size, 0, none⟩)) (by simp [execOp, hop, Instr.alloc, hz, newVar, newRow]) hv
        · cases hr
      · cases hr
        obtain ⟨ρ', hrel, hv⟩ := new_var h (cs := y.zero) (c := z.cells) (e := el) hzo.1 (fun i hi => hzo.2 i hi _ _ _ _)
        exact opOk_do hFe hd (by simp [hop]) hrel (cv := .pointer (some ⟨w.heap.size, 0, none⟩)) (by simp [execOp, hop, Instr.alloc, hz, newVar, newRow]) hv
    · cases hr
  case makeMap t rv =>
    split at hr
    · cases hr
      obtain ⟨ρ', hrel, hv⟩ := h.newMap
      exact opOk_do hFe hd (by simp [hop]) hrel (cv := .map (some w.heap.size)) (by simp [execOp, hop, Instr.makeMap, Result.andThen]) hv
    · cases hr
  case mapUpdate t m k v =>
    split at hr
    · rename_i y id gen ks hty hm hk
      have hm' := he m
      rw [hm] at hm'
      have hk' := he k
      rw [hk] at hk'
      obtain ⟨s, hs1, hs2⟩ := relD_str hk'
      split at hr
      · rename_i l g ho
        split at hr
        · rename_i hg
          cases hr
          obtain ⟨w', hrun, hrel⟩ := mapUpdate_ok hT h hty ho (by simpa using hg) hm' (s := s) (he v)
          rw [hs2] at hrel
          exact opOk_skip hFe hd (by simp [hop]) hrel (by simp [execOp, hop, hs1, hrun])
        · cases hr
      · cases hr
    · cases hr
  case store t x y =>
    split at hr
    · rename_i ty id gen row col hty hx
      have hx' := he x
      rw [hx] at hx'
      split at hr
      · rename_i ds hy
        have hy' := he y
        rw [hy] at hy'
        split at hr
        · rename_i rs n' g ho
          obtain ⟨⟨⟨hn, hg⟩, hsz, hle⟩, rfl⟩ := ite_some hr
          subst hn
          generalize hcx : a.eval x = cx at hx'
          generalize hcy : a.eval y = cy at hy'
          cases hy' with
          | ar _ vs hl hrr =>
            cases hx' with
            | ptr _ _ _ _ _ o' ho' hge hs hptr =>
              rw [ho] at ho'; cases ho'
              obtain ⟨b, δ, hρ, rfl⟩ := hptr hg
              obtain ⟨w', hrun, hrel⟩ := store_rows (P := P) h ho hle (vs := vs.toList) (by simp; omega) (fun i hi => by
                have := hrr i hi
                simpa [List.getD_eq_getElem?_getD, Array.getD_eq_getD_getElem?] using this) hρ
              refine opOk_skip hFe hd (by simp [hop]) hrel ?_
              have hvs : vs.size = ty.size := by omega
              simp only [Nat.mul_one, Nat.add_zero] at hrun
              simp [execOp, hop, hcx, hcy, Instr.storeAt, Instr.sureAddr, storeVar, hT.sizeOf hty, Value.cells, hvs, AObj.sz] at hrun ⊢
              simp [hrun]
        · cases hr
      · split at hr
        · rename_i cs cells g hcs ho
          split at hr
          · rename_i hg hle
            cases hr
            have hg := of_decide_eq_true hg
            have hle := of_decide_eq_true hle
            obtain ⟨h1, h2, h3, h4⟩ := toCells_ok (he y) hcs
            generalize hcx : a.eval x = cx at hx'
            cases hx' with
            | ptr _ _ _ _ _ o' ho' hge hs hptr =>
              rw [ho] at ho'; cases ho'
              obtain ⟨b, δ, hρ, rfl⟩ := hptr hg
              obtain ⟨w', hrun, hrel⟩ := store_var (P := P) h ho hle (vs := (a.eval y).cells.toList) (by simp; omega) h4 (fun i hi => by
                have := h3 i hi
                simpa [List.getD_eq_getElem?_getD, Array.getD_eq_getD_getElem?] using this) hρ
              refine opOk_skip hFe hd (by simp [hop]) hrel ?_
              simp [execOp, hop, hcx, Instr.storeAt, Instr.sureAddr, storeVar, hT.sizeOf hty, h1, hrun]
          · cases hr
        · rename_i cs rs n' g hcs ho
          split at hr
          · rename_i ds hds
            obtain ⟨h1, h2, h3, h4⟩ := toCells_ok (he y) hcs
            obtain ⟨h5, h6⟩ := allD_ok (w := w) (Wr := Wrt F ρ σ.objs) (ρ := ρ) (objs := σ.objs) hds
            have rows1 : n' = 1 → gen = g → row + col + ds.length ≤ rs.length → OpOk P Fe n F o (σ.res o.dst (.skip, σ.objs.set id (.arr (setR rs (row + col) (ds.map fun d => [d])) n' g))) a w := by
              intro hn hg hle
              subst hn
              generalize hcx : a.eval x = cx at hx'
              cases hx' with
              | ptr _ _ _ _ _ o' ho' hge hs hptr =>
                rw [ho] at ho'; cases ho'
                obtain ⟨b, δ, hρ, rfl⟩ := hptr hg
                obtain ⟨w', hrun, hrel⟩ := store_rows (P := P) h ho hle (vs := (a.eval y).cells.toList) (by simp; omega) (fun i hi => by
                  have := h6 i (by omega) _ (h3 i (by omega))
                  simpa [List.getD_eq_getElem?_getD, Array.getD_eq_getD_getElem?] using this) hρ
                refine opOk_skip hFe hd (by simp [hop]) hrel ?_
                simp only [Nat.mul_one, Nat.add_zero] at hrun
                simp [execOp, hop, hcx, Instr.storeAt, Instr.sureAddr, storeVar, hT.sizeOf hty, h1, AObj.sz, hrun]
            split at hr
            · rename_i hn1
              have hn1 := of_decide_eq_true hn1
              split at hr
              · rename_i d
                obtain ⟨⟨hg, hle⟩, rfl⟩ := ite_some hr
                have := rows1 hn1 hg (by simp only [List.length_singleton]; omega)
                have e1 : setR rs (row + col) ([d].map fun d => [d]) = rs.set (row + col) [d] := by
                  simp only [setR, List.map_cons, List.map_nil, List.length_singleton]
                  rw [List.set_eq_take_append_cons_drop, if_pos hle]
                  simp
                rw [e1] at this
                exact this
              · obtain ⟨⟨hg, hle⟩, rfl⟩ := ite_some hr
                exact rows1 hn1 hg hle
            obtain ⟨⟨hg, hrow, hle⟩, rfl⟩ := ite_some hr
            generalize hcx : a.eval x = cx at hx'
            cases hx' with
            | ptr _ _ _ _ _ o' ho' hge hs hptr =>
              rw [ho] at ho'; cases ho'
              obtain ⟨b, δ, hρ, rfl⟩ := hptr hg
              obtain ⟨w', hrun, hrel⟩ := store_arr (P := P) h ho hrow hle (vs := (a.eval y).cells.toList) (by simp; omega) h4 (fun i hi => by
                have := h6 i (by omega) _ (h3 i (by omega))
                simpa [List.getD_eq_getElem?_getD, Array.getD_eq_getD_getElem?] using this) hρ
              refine opOk_skip hFe hd (by simp [hop]) hrel ?_
              simp [execOp, hop, hcx, Instr.storeAt, Instr.sureAddr, storeVar, hT.sizeOf hty, h1, AObj.sz, hrun]
          · cases hr
        · cases hr
    · cases hr
  case buildSlice t len parts =>
    split at hr
    · rename_i y hy
      split at hr
      · rename_i z hz hsm
        have hsm := of_decide_eq_true hsm
        split at hr
        · rename_i rows hrows
          obtain ⟨e, hue, hte⟩ := elemT_spec hT hy
          obtain ⟨zv, hzv, hzo, hzs⟩ := hT.zeroRun hte w
          obtain ⟨_, i0, hi0, hsz0, hb0, z0, hz0, hzo0, hzl0⟩ := hT e y hte
          obtain ⟨h5, h6⟩ := allD_ok (w := w) (Wr := Wrt F ρ σ.objs) (ρ := ρ) (objs := σ.objs) hz
          let zc : Array Value := if len * y.size = 0 then #[] else zv.cells
          let c0 : Array Value := (Array.range (len * y.size)).map fun k => zc[k % zc.size]!
          have hl0 : Laid w (Wrt F ρ σ.objs) c0 (List.replicate len z) y.size := by
            refine laid_zero h (zc := zv.cells) (fun i hi => h6 i (by omega) _ (hzo.2 i (by omega) _ _ _ _)) (by omega) hzs len c0 (by simp [c0]) (fun k hk => ?_)
            have hne : ¬ len * y.size = 0 := by omega
            have hys : 0 < y.size := Nat.pos_of_ne_zero fun h0 => hne (by rw [h0, Nat.mul_zero])
            have hlt : k % y.size < zv.cells.size := by rw [hzs]; exact Nat.mod_lt _ hys
            have e1 : c0.getD k undef = zv.cells[k % y.size]'hlt := by
              simp only [c0, zc, if_neg hne, hzs]
              simp [Array.getD_eq_getD_getElem?, hk, hlt]
            rw [e1]
            simp [Array.getD_eq_getD_getElem?, hlt]
          obtain ⟨c', hc', hlc⟩ := fill_ok h parts.toList c0 _ _ hl0 hrows
          have hrl : ∀ (ps : List (Nat × Operand)) (r1 r2 : List (List D)), fillA σ.eval y ps r1 = some r2 → r2.length = r1.length := by
            intro ps
            induction ps with
            | nil => intro r1 r2 hh; cases hh; rfl
            | cons p ps ih =>
              obtain ⟨i, x⟩ := p
              intro r1 r2 hh
              simp only [fillA] at hh
              split at hh
              · split at hh
                · split at hh
                  · rw [ih _ _ hh, List.length_set]
                  · cases hh
                · cases hh
              · cases hh
          have hlen := hrl _ _ _ hrows
          rw [List.length_replicate] at hlen
          have hfill : Instr.fill (fun i => some (i * y.size, y.size)) c0 (parts.map fun (i, x) => (i, a.eval x)).toList = some c' := by
            rw [Array.toList_map]; exact hc'
          have hrun := buildSlice_run (P := P) (w := w) (zc := zc) hue (hT.sizeOf hte w) hsm (by
            by_cases h0 : len * y.size = 0
            · simp only [zc, if_pos h0]
            · simp only [zc, if_neg h0]; exact ⟨zv, hzv, rfl⟩) hfill
          have hrunA : (execOp a.eval o).run P w = .ok (.value (.slice (some ⟨w.heap.size, 0, none⟩) len len)) (w.alloc (.cells c' e (0, 0))) := by
            simp [execOp, hop, hrun]
          split at hr
          · split at hr
            · rename_i hz1
              cases hr
              have hd1 := new_data h.hp (e := e) (f := (0, 0)) hlc.rowsz (of_decide_eq_true hz1) (Nat.le_refl rows.length) (by rw [hlc.size]; exact Nat.le_refl _) hlc.cells
              rw [hlen] at hd1
              exact opOk_do hFe hd (by simp [hop]) (h.world (frm_alloc _ w _)) (cv := .slice (some ⟨w.heap.size, 0, none⟩) len len) hrunA (.d _ _ hd1)
            · cases hr
          · cases hr
            obtain ⟨ρ', hrel, hv⟩ := new_arr h (rs := rows) (n := y.size) (c := c') (e := e) (f := (0, 0)) (cap := rows.length) hlc.rowsz (by intro i _; omega) (Nat.le_refl _) (by rw [hlc.size]; exact Nat.le_refl _) hlc.cells
            rw [hlen] at hv
            exact opOk_do hFe hd (by simp [hop]) hrel (cv := .slice (some ⟨w.heap.size, 0, none⟩) len len) hrunA hv
        · split at hr
          · cases hr
          · split at hr
            · rename_i cs hcs hpos
              cases hr
              have hpos := of_decide_eq_true hpos
              obtain ⟨e, hue, hte⟩ := elemT_spec hT hy
              obtain ⟨zv, hzv, hzo, hzs⟩ := hT.zeroRun hte w
              have hzl : y.zero.length = y.size := by
                obtain ⟨_, _, _, _, _, _, _, _, h, _⟩ := hT e y hte
                exact h
              have hfl : ((List.replicate len y.zero).flatten).length = len * y.size := by simp [hzl]
              let zc : Array Value := if len * y.size = 0 then #[] else zv.cells
              let c0 : Array Value := (Array.range (len * y.size)).map fun k => zc[k % zc.size]!
              obtain ⟨c', g1, g2, g3⟩ := buildA_ok h (pl := fun i => some (i * y.size, y)) (pc := fun i => some (i * y.size, y.size)) (fun i off y' hf => by cases hf; rfl) parts.toList c0 _ cs (by rw [hfl]; simp [c0]) (fun k hk => by
                rw [hfl] at hk
                have hne : ¬ len * y.size = 0 := by omega
                have hlt : k % y.size < zv.cells.size := by rw [hzs]; exact Nat.mod_lt _ hpos
                have e1 : c0.getD k undef = zv.cells.getD (k % y.size) undef := by
                  simp only [c0, zc, if_neg hne, hzs]
                  simp [Array.getD_eq_getD_getElem?, hk, hlt]
                rw [e1, flat_zero hzl k hk]
                exact hzo.2 _ (by rw [hzl]; exact Nat.mod_lt _ hpos) _ _ _ _) hcs
              have hcl : cs.length = len * y.size := (buildA_length _ _ hcs).trans hfl
              have hrun := buildSlice_run (P := P) (w := w) (zc := zc) hue (hT.sizeOf hte w) hsm (by
                by_cases h0 : len * y.size = 0
                · simp only [zc, if_pos h0]
                · simp only [zc, if_neg h0]; exact ⟨zv, hzv, rfl⟩) (parts := parts.map fun (i, x) => (i, a.eval x)) (c' := c') (by rw [Array.toList_map]; exact g1)
              obtain ⟨ρ', hrel, hv⟩ := new_arv h (cells := cs) (n := y.size) (len := len) (c := c') (e := e) hpos hcl g2 g3
              exact opOk_do hFe hd (by simp [hop]) hrel (cv := .slice (some ⟨w.heap.size, 0, none⟩) len len) (by simp [execOp, hop, hrun]) hv
            · cases hr
      · cases hr
    · cases hr
  case convert src dst x =>
    have hx := he x
    split at hr
    · split at hr
      · rename_i v hv
        cases hr
        obtain ⟨u, hu, hru⟩ := strA_ok (P := P) h hT hx hv
        exact opOk_do hFe hd (by simp [hop]) h (cv := u) (by simp [execOp, hop, hu]) hru
      · cases hr
    · split at hr
      · rename_i s hs hty
        cases hr
        rw [hs] at hx
        obtain ⟨s', hs', hss⟩ := relD_str hx
        obtain ⟨e, c, cap, f, hrun, hsz, hc, hle, hfr⟩ := bytes_run (P := P) hT (w := w) hty s'
        subst hss
        have hd1 := new_data (drew_ok h).hp (e := e) (f := f) (rs := s'.data.toList.map fun b => [D.int .u8 (b.toNat : Int)]) (n := 1) (c := c) (cap := cap) (fun r hr => by obtain ⟨b, _, rfl⟩ := List.mem_map.1 hr; rfl) (by omega) (by simpa using hsz) (by simpa using Nat.le_trans hsz hle)
          (fun i j hi hj => by
            have hj0 : j = 0 := by omega
            subst hj0
            have hi' : i < s'.data.toList.length := by simpa using hi
            have h1 : rcell (s'.data.toList.map fun b => [D.int .u8 (b.toNat : Int)]) i 0 = .int .u8 (s'.data.toList[i].toNat : Int) := rcell_bytes _ i hi'
            rw [h1]
            have h2 := hc i hi'
            rw [Nat.mul_one, Nat.add_zero, h2]
            exact .int _ _)
        simp only [List.length_map] at hd1
        exact opOk_do hFe hd (by simp [hop]) ((drew_ok h).world (frm_alloc _ _ _)) (cv := .slice (some ⟨w.heap.size, 0, none⟩) s'.data.toList.length cap) (by simp only [Array.length_toList] at hrun; simp [execOp, hop, hs', hrun]) (.d _ _ hd1)
      · cases hr
    · split at hr
      · rename_i s hs hty
        cases hr
        rw [hs] at hx
        obtain ⟨s', hs', hss⟩ := relD_str hx
        obtain ⟨e, c, cap, f, hrun, hsz, hc, hle, hfr⟩ := bytes_run (P := P) hT (w := w) hty s'
        subst hss
        obtain ⟨ρ', hrel, hv⟩ := new_arr (drew_ok h) (e := e) (f := f) (rs := s'.data.toList.map fun b => [D.int .u8 (b.toNat : Int)]) (n := 1) (c := c) (cap := cap) (fun r hr => by obtain ⟨b, _, rfl⟩ := List.mem_map.1 hr; rfl) hfr (by simpa using hsz) (by simpa using hle)
          (fun i j hi hj => by
            have hj0 : j = 0 := by omega
            subst hj0
            have hi' : i < s'.data.toList.length := by simpa using hi
            have h1 : rcell (s'.data.toList.map fun b => [D.int .u8 (b.toNat : Int)]) i 0 = .int .u8 (s'.data.toList[i].toNat : Int) := rcell_bytes _ i hi'
            rw [h1]
            have h2 := hc i hi'
            rw [Nat.mul_one, Nat.add_zero, h2]
            exact .int _ _)
        simp only [List.length_map] at hv
        exact opOk_do hFe hd (by simp [hop]) hrel (cv := .slice (some ⟨w.heap.size, 0, none⟩) s'.data.toList.length cap) (by simp only [Array.length_toList] at hrun; simp [execOp, hop, hs', hrun]) hv
      · cases hr
    · cases hr
  case makeSlice t l c =>
    split at hr
    · rename_i y l' c' hy hle hce
      split at hr
      · rename_i z hz
        obtain ⟨⟨h0, h1, h2, h3⟩, rfl⟩ := ite_some hr
        obtain ⟨e, hue, hte⟩ := elemT_spec hT hy
        obtain ⟨zv, hzv, hzo, hzs⟩ := hT.zeroRun hte w
        obtain ⟨i, hi, hib⟩ := hT.info hte w
        obtain ⟨_, i0, hi0, hsz0, hb0, z0, hz0, hzo0, hzl0⟩ := hT e y hte
        obtain ⟨h5, h6⟩ := allD_ok (w := w) (Wr := Wrt F ρ σ.objs) (ρ := ρ) (objs := σ.objs) hz
        have el := he l; rw [hle] at el
        have ec := he c; rw [hce] at ec
        let zc : Array Value := if c'.toNat * y.size = 0 then #[] else zv.cells
        let c0 : Array Value := (Array.range (c'.toNat * y.size)).map fun k => zc[k % zc.size]!
        have hrun := makeSlice_run (P := P) (w := w) (zc := zc) hue (hT.sizeOf hte w) hi hib h0 h1 h2 h3 (by
          by_cases h0 : c'.toNat * y.size = 0
          · simp only [zc, if_pos h0]
          · simp only [zc, if_neg h0]; exact ⟨zv, hzv, rfl⟩)
        have hl0 : Laid w (Wrt F ρ σ.objs) c0 (List.replicate c'.toNat z) y.size := by
          refine laid_zero h (zc := zv.cells) (fun i hi => h6 i (by omega) _ (hzo.2 i (by omega) _ _ _ _)) (by omega) hzs c'.toNat c0 (by simp [c0]) (fun k hk => ?_)
          have hne : ¬ c'.toNat * y.size = 0 := by omega
          have hys : 0 < y.size := Nat.pos_of_ne_zero fun h0 => hne (by rw [h0, Nat.mul_zero])
          have hlt : k % y.size < zv.cells.size := by rw [hzs]; exact Nat.mod_lt _ hys
          have e1 : c0.getD k undef = zv.cells[k % y.size]'hlt := by
            simp only [c0, zc, if_neg hne, hzs]
            simp [Array.getD_eq_getD_getElem?, hk, hlt]
          rw [e1]
          simp [Array.getD_eq_getD_getElem?, hlt]
        have hll : l'.toNat ≤ c'.toNat := by omega
        obtain ⟨ρ', hrel, hv⟩ := new_arr h (rs := List.replicate l'.toNat z) (n := y.size) (c := c0) (e := e) (f := (0, 0)) (cap := c'.toNat) (fun r hr => by rw [(List.mem_replicate.1 hr).2]; omega) (by intro i _; omega) (by simpa using hll) (by simp [c0]) (fun i j hi hj => by
          have hi' : i < l'.toNat := by simpa using hi
          have := hl0.cells i j (by simp; omega) hj
          have e1 : rcell (List.replicate l'.toNat z) i j = rcell (List.replicate c'.toNat z) i j := by
            simp [rcell, List.getD_eq_getElem?_getD, hi', show i < c'.toNat by omega]
          rw [e1]; exact this)
        simp only [List.length_replicate] at hv
        exact opOk_do hFe hd (by simp [hop]) hrel (cv := .slice (some ⟨w.heap.size, 0, none⟩) l'.toNat c'.toNat) (by simp [execOp, hop, relD_int el, relD_int ec, hrun, c0]) hv
      · cases hr
    · cases hr
  case call c =>
    split at hr
    · rename_i f hcal
      split at hr
      · rename_i g cap hf
        have hfv := he f
        rw [hf] at hfv
        generalize hcf : a.eval f = cf at hfv
        cases hfv with
        | fn _ _ vs hl hcap =>
          obtain ⟨hsz, hargs⟩ := args_ok he c.args
          refine callO_ok ht hFe h hd (by simp [hop]) (cargs := c.args.map a.eval ++ vs) (by simp [hsz, ← hl]) (fun i hi => ?_) (fun hent => ?_) (callQ_some hr).1
          · rw [getD_append, arr_getD_append, hsz]
            split
            · rename_i h1; exact hargs i h1
            · rename_i h1; exact hcap _ (by simp at hi h1 ⊢; omega)
          · simp [execOp, hop, resolve, hcal, hcf, Deferred.ofValue, invoke, hent]
      · cases hr
    · rename_i hcal
      split at hr
      · rename_i s x t u hargs htys
        split at hr
        · rename_i y R hy hR hu
          have hc : c = { callee := .builtin .append, args := #[s, x], argTypes := #[t, u] } := by
            obtain ⟨ca, ar, at'⟩ := c
            simp only at hcal hargs htys
            rw [hcal, ← Array.toArray_toList (xs := ar), hargs, ← Array.toArray_toList (xs := at'), htys]
          subst hc
          obtain ⟨v, objs'⟩ := r
          obtain ⟨cv, w', ρ', hrun, hrel, hv⟩ := appendA_ok h hT (P := P) (ty := o.type) hy hu (he s) (he x) hR hr
          exact opOk_do hFe hd (by simp [hop]) hrel (cv := cv) (by simp [execOp, hop, resolve, invoke, builtin, hrun]) hv
        · cases hr
      · cases hr
    · rename_i hcal
      split at hr
      · rename_i s x t u hargs htys
        split at hr
        · rename_i y R id off len gen hy hR hs
          split at hr
          · rename_i rs n' g ho
            obtain ⟨⟨hrow, h0, hg, hn, hfits⟩, rfl⟩ := ite_some hr
            have hc : c = { callee := .builtin .copy, args := #[s, x], argTypes := #[t, u] } := by
              obtain ⟨ca, ar, at'⟩ := c
              simp only at hcal hargs htys
              rw [hcal, ← Array.toArray_toList (xs := ar), hargs, ← Array.toArray_toList (xs := at'), htys]
            subst hc
            have hs' := he s
            rw [hs] at hs'
            obtain ⟨w', ρ', hrun, hrel⟩ := copy_ok h hT (P := P) (u := u) (ty := o.type) hy ho hs' (he x) hR hrow h0 hg hn hfits
            exact opOk_do hFe hd (by simp [hop]) hrel (cv := .int .i64 (min R.length len : Nat)) (by simp [execOp, hop, resolve, invoke, builtin, hrun]) (.d _ _ (.int _ _))
          · cases hr
        · cases hr
      · cases hr
    · rename_i hcal
      split at hr
      · rename_i s t hargs htys
        have hc : c = { callee := .builtin .clear, args := #[s], argTypes := #[t] } := by
          obtain ⟨ca, ar, at'⟩ := c
          simp only at hcal hargs htys
          rw [hcal, ← Array.toArray_toList (xs := ar), hargs, ← Array.toArray_toList (xs := at'), htys]
        subst hc
        have hs' := he s
        split at hr
        · rename_i y id off len gen hy hs
          rw [hs] at hs'
          split at hr
          · rename_i z rs n' g hz ho
            obtain ⟨⟨⟨h0, hg, hn⟩, hfits⟩, rfl⟩ := ite_some hr
            obtain ⟨w', ρ', hrun, hrel⟩ := clear_ok h hT (P := P) (ty := o.type) hy hz ho hs' h0 hg hn hfits
            exact opOk_do hFe hd (by simp [hop]) hrel (cv := .tuple #[]) (by simp [execOp, hop, resolve, invoke, builtin, hrun]) (.tup [] #[] rfl (fun i hi => by simp at hi))
          · cases hr
        · rename_i y hy hs
          rw [hs] at hs'
          cases hr
          have hp : ∃ p, a.eval s = .slice p 0 0 := by
            generalize a.eval s = v at hs'
            cases hs' with
            | nils => exact ⟨none, rfl⟩
          obtain ⟨p, hp⟩ := hp
          obtain ⟨e, hue, hte⟩ := elemT_spec hT hy
          exact opOk_do hFe hd (by simp [hop]) h (cv := .tuple #[]) (by cases p <;> simp [execOp, hop, resolve, invoke, builtin, Builtin.clear_, run_underlying hue, hp]) (.tup [] #[] rfl (fun i hi => by simp at hi))
        · cases hr
      · cases hr
    · cases hr
end

end Go.AI
