/- A sum that is written to, as the program does it. -/
import Derived.Test.YtejejeginfjnjaaAiPlaceE
import Derived.Test.YtejejeginfjnjaaAiPlaceI
namespace Go.Proofs.Ytejejeginfjnjaa
open Go Go.AI
set_option linter.unusedVariables false

structure Sha where
  h : List Int
  p : List Int
  n : Nat
def Sha.ok (s : Sha) : Prop := s.h.length = 8 ∧ s.p.length = 64 ∧ s.n < 1125899906842624
def Sha.enc (s : Sha) : List (List D) := cl (u32D s.h) ++ (cl (u8D s.p) ++ [[.int .i64 s.n], [.bool true]])
def w8 (l : List Int) : W8 := ⟨l.getD 0 0, l.getD 1 0, l.getD 2 0, l.getD 3 0, l.getD 4 0, l.getD 5 0, l.getD 6 0, l.getD 7 0⟩
theorem blockP_length (H : W8) (B : List Int) : (blockP H B).length = 8 := addsP_length _ _ _
def Sha.take (s : Sha) (c : List Int) : Sha :=
  ⟨if (s.n + c.length) % 64 = 0 then blockP (w8 s.h) (setR s.p (s.n % 64) c) else s.h, setR s.p (s.n % 64) c, s.n + c.length⟩
/-- What is written, byte by byte. -/
def Sha.one (s : Sha) (b : Int) : Sha := ⟨if (s.n + 1) % 64 = 0 then blockP (w8 s.h) (s.p.set (s.n % 64) b) else s.h, s.p.set (s.n % 64) b, s.n + 1⟩
def Sha.write (s : Sha) (l : List Int) : Sha := l.foldl Sha.one s

theorem setR_one {α : Type} (l : List α) (o : Nat) (b : α) (h : o < l.length) : setR l o [b] = l.set o b := by
  rw [List.set_eq_take_append_cons_drop, if_pos h]
  simp [setR]
theorem setR_cons {α : Type} (l : List α) (o : Nat) (b : α) (c : List α) (h : o < l.length) : setR (l.set o b) (o + 1) c = setR l o (b :: c) := by
  rw [List.set_eq_take_append_cons_drop, if_pos h]
  have h1 : (l.take o).length = o := by simp; omega
  have e1 : (l.take o ++ b :: l.drop (o + 1)).take (o + 1) = l.take o ++ [b] := by
    rw [List.take_append, h1, List.take_of_length_le (by omega), Nat.add_sub_cancel_left]; rfl
  have e2 : (l.take o ++ b :: l.drop (o + 1)).drop (o + 1 + c.length) = l.drop (o + (c.length + 1)) := by
    rw [List.drop_append, h1, List.drop_of_length_le (by omega), show o + 1 + c.length - o = c.length + 1 by omega, List.drop_succ_cons, List.drop_drop]
    rw [List.nil_append]; congr 1; omega
  simp only [setR, e1, e2, List.length_cons]
  simp
theorem write_take : ∀ (c : List Int) (s : Sha), 0 < c.length → c.length ≤ 64 - s.n % 64 → s.p.length = 64 → s.write c = s.take c
  | [], s, h, _, _ => absurd h (Nat.lt_irrefl 0)
  | [b], s, _, hc, hp => by
    show s.one b = s.take [b]
    have hlt : s.n % 64 < s.p.length := by rw [hp]; exact Nat.mod_lt _ (by omega)
    unfold Sha.one Sha.take
    rw [setR_one _ _ _ hlt]
    rfl
  | b :: b' :: c, s, _, hc, hp => by
    have hlt : s.n % 64 < s.p.length := by rw [hp]; exact Nat.mod_lt _ (by omega)
    simp only [List.length_cons] at hc
    have e1 : (s.n + 1) % 64 = s.n % 64 + 1 := by omega
    have hone : s.one b = ⟨s.h, s.p.set (s.n % 64) b, s.n + 1⟩ := by
      unfold Sha.one
      rw [if_neg (by omega)]
    show (s.one b).write (b' :: c) = _
    rw [hone, write_take (b' :: c) _ (by simp) (by show (b' :: c).length ≤ 64 - (s.n + 1) % 64; simp only [List.length_cons]; omega) (by simpa using hp)]
    unfold Sha.take
    simp only [e1]
    rw [setR_cons _ _ _ _ hlt]
    have e2 : s.n + 1 + (b' :: c).length = s.n + (b :: b' :: c).length := by simp only [List.length_cons]; omega
    rw [e2]
theorem write_app (s : Sha) (a b : List Int) : s.write (a ++ b) = (s.write a).write b := List.foldl_append ..

theorem setR_len {α : Type} (l m : List α) (o : Nat) (h : o + m.length ≤ l.length) : (setR l o m).length = l.length := by
  simp [setR]; omega
theorem Sha.take_ok {s : Sha} {c : List Int} (h : s.ok) (hc : c.length ≤ 64 - s.n % 64) (hn : s.n + c.length < 1125899906842624) : (s.take c).ok := by
  obtain ⟨h1, h2, h3⟩ := h
  refine ⟨?_, ?_, hn⟩
  · show (if (s.n + c.length) % 64 = 0 then _ else s.h).length = 8
    split
    · exact blockP_length _ _
    · exact h1
  · show (setR s.p (s.n % 64) c).length = 64
    rw [setR_len _ _ _ (by omega), h2]

theorem enc_len {s : Sha} (h : s.ok) : s.enc.length = 74 := by
  obtain ⟨h1, h2, h3⟩ := h
  simp [Sha.enc, cl, u32D, u8D, h1, h2]
theorem enc_made {s : Sha} (h : s.ok) : s.enc.getD 73 [] = [.bool true] := by
  obtain ⟨h1, h2, h3⟩ := h
  have e1 : (cl (u32D s.h)).length = 8 := by rw [cl_length, u32D_length, h1]
  have e2 : (cl (u8D s.p)).length = 64 := by rw [cl_length, u8D_length, h2]
  simp [Sha.enc, List.getD_eq_getElem?_getD, e1, e2]
theorem enc_n {s : Sha} (h : s.ok) : s.enc.getD 72 [] = [.int .i64 s.n] := by
  obtain ⟨h1, h2, h3⟩ := h
  have e1 : (cl (u32D s.h)).length = 8 := by rw [cl_length, u32D_length, h1]
  have e2 : (cl (u8D s.p)).length = 64 := by rw [cl_length, u8D_length, h2]
  simp [Sha.enc, List.getD_eq_getElem?_getD, e1, e2]

theorem ldMade {P : Prop} {s : Sha} {k : List D → Prop} (h : s.ok) (hp : P) (hk : k [.bool true]) : ∃ r, Side (P ∧ 0 + 73 < s.enc.length ∧ s.enc.getD (0 + 73) [] = r) ∧ k r :=
  ⟨_, ⟨hp, by rw [enc_len h]; decide, enc_made h⟩, hk⟩
theorem ldN {P : Prop} {s : Sha} {k : List D → Prop} (h : s.ok) (hp : P) (hk : k [.int .i64 s.n]) : ∃ r, Side (P ∧ 0 + 72 < s.enc.length ∧ s.enc.getD (0 + 72) [] = r) ∧ k r :=
  ⟨_, ⟨hp, by rw [enc_len h]; decide, enc_n h⟩, hk⟩

theorem enc_copy {s : Sha} (h : s.ok) (o : Nat) (c : List Int) (ho : o + c.length ≤ 64) : setR s.enc (0 + 8 + o) (cl (u8D c)) = (⟨s.h, setR s.p o c, s.n⟩ : Sha).enc := by
  obtain ⟨h1, h2, h3⟩ := h
  have e1 : (cl (u32D s.h)).length = 8 := by rw [cl_length, u32D_length, h1]
  have e3 : (cl (u8D c)).length = c.length := by rw [cl_length, u8D_length]
  have hm : ∀ a b : List Int, cl (u8D (a ++ b)) = cl (u8D a) ++ cl (u8D b) := fun a b => by simp [cl, u8D]
  have ht : ∀ (k : Nat) (a : List Int), (cl (u8D a)).take k = cl (u8D (a.take k)) := fun k a => by simp [cl, u8D, List.map_take]
  have hd : ∀ (k : Nat) (a : List Int), (cl (u8D a)).drop k = cl (u8D (a.drop k)) := fun k a => by simp [cl, u8D, List.map_drop]
  have e2 : (cl (u8D s.p)).length = 64 := by rw [cl_length, u8D_length, h2]
  unfold Sha.enc setR
  rw [e3, List.take_append, e1, List.take_of_length_le (by omega), List.take_append, e2, List.drop_append, e1, List.drop_of_length_le (by omega), List.drop_append, e2]
  rw [show 0 + 8 + o - 8 = o by omega, show 0 + 8 + o + c.length - 8 = o + c.length by omega, show o - 64 = 0 by omega, show o + c.length - 64 = 0 by omega]
  simp only [hm, ht, hd, List.take_zero, List.append_nil, List.nil_append, List.drop_zero, List.append_assoc]
theorem enc_setN {s : Sha} (h : s.ok) (m : Nat) : s.enc.set (0 + 72) [D.int .i64 m] = (⟨s.h, s.p, m⟩ : Sha).enc := by
  obtain ⟨h1, h2, h3⟩ := h
  have e1 : (cl (u32D s.h)).length = 8 := by rw [cl_length, u32D_length, h1]
  have e2 : (cl (u8D s.p)).length = 64 := by rw [cl_length, u8D_length, h2]
  unfold Sha.enc
  rw [List.set_append, if_neg (by omega), e1, List.set_append, if_neg (by omega), e2]
  rfl
theorem enc_setH {s : Sha} (h : s.ok) (m : List Int) (hm : m.length = 8) : setR s.enc (0 + 0) ((u32D m).map fun d => [d]) = (⟨m, s.p, s.n⟩ : Sha).enc := by
  obtain ⟨h1, h2, h3⟩ := h
  have e1 : (cl (u32D s.h)).length = 8 := by rw [cl_length, u32D_length, h1]
  have e2 : ((u32D m).map fun d => [d]).length = 8 := by rw [List.length_map, u32D_length, hm]
  unfold Sha.enc setR
  rw [e2, List.drop_append, e1, List.drop_of_length_le (by omega)]
  rfl
theorem ldHs {P : Prop} {s : Sha} {k : List D → Prop} (h : s.ok) (hp : P) (hk : k (u32D s.h)) : ∃ r, Side (P ∧ 0 + 0 + 8 ≤ s.enc.length ∧ (((s.enc.drop (0 + 0)).take 8).map fun r => r.getD 0 .nilp) = r) ∧ k r := by
  refine ⟨_, ⟨hp, by rw [enc_len h]; decide, ?_⟩, hk⟩
  obtain ⟨h1, h2, h3⟩ := h
  have e1 : (cl (u32D s.h)).length = 8 := by rw [cl_length, u32D_length, h1]
  have a1 : s.enc.take 8 = cl (u32D s.h) := by rw [Sha.enc, ← e1, List.take_left']; rfl
  show ((s.enc.take 8).map _) = _
  rw [a1]
  simp [cl, Function.comp_def]
theorem ldPs {P : Prop} {s : Sha} {k : List D → Prop} (h : s.ok) (hp : P) (hk : k (u8D s.p)) : ∃ r, Side (P ∧ 0 + 8 + 64 ≤ s.enc.length ∧ (((s.enc.drop (0 + 8)).take 64).map fun r => r.getD 0 .nilp) = r) ∧ k r := by
  refine ⟨_, ⟨hp, by rw [enc_len h]; decide, ?_⟩, hk⟩
  obtain ⟨h1, h2, h3⟩ := h
  have e1 : (cl (u32D s.h)).length = 8 := by rw [cl_length, u32D_length, h1]
  have e2 : (cl (u8D s.p)).length = 64 := by rw [cl_length, u8D_length, h2]
  have a2 : (s.enc.drop 8).take 64 = cl (u8D s.p) := by rw [Sha.enc, ← e1, List.drop_left', ← e2, List.take_left'] <;> rfl
  show (((s.enc.drop 8).take 64).map _) = _
  rw [a2]
  simp [cl, Function.comp_def]

theorem cl8_take (k : Nat) (l : List Int) : (cl (u8D l)).take k = cl (u8D (l.take k)) := by simp [cl, u8D, List.map_take]
theorem cl8_drop (k : Nat) (l : List Int) : (cl (u8D l)).drop k = cl (u8D (l.drop k)) := by simp [cl, u8D, List.map_drop]
theorem eR8 (l : List Int) : ∀ r ∈ cl (u8D l), r.length = ty5.size := by
  intro r hr
  simp [cl, u8D] at hr
  obtain ⟨_, _, rfl⟩ := hr
  rfl
def decSha (rs : List (List D)) : Sha := ⟨(rs.take 8).map rowN, ((rs.drop 8).take 64).map rowN, (rowN (rs.getD 72 [])).toNat⟩
theorem dec_enc {s : Sha} (h : s.ok) : decSha s.enc = s := by
  have hn := enc_n h
  obtain ⟨h1, h2, h3⟩ := h
  have e1 : (cl (u32D s.h)).length = 8 := by rw [cl_length, u32D_length, h1]
  have e2 : (cl (u8D s.p)).length = 64 := by rw [cl_length, u8D_length, h2]
  unfold decSha
  rw [hn]
  have a1 : s.enc.take 8 = cl (u32D s.h) := by rw [Sha.enc, ← e1, List.take_left']; rfl
  have a2 : (s.enc.drop 8).take 64 = cl (u8D s.p) := by rw [Sha.enc, ← e1, List.drop_left', ← e2, List.take_left'] <;> rfl
  rw [a1, a2]
  have b1 : (cl (u32D s.h)).map rowN = s.h := by simp [cl, u32D, rowN, Function.comp_def]
  have b2 : (cl (u8D s.p)).map rowN = s.p := by simp [cl, u8D, rowN, Function.comp_def]
  rw [b1, b2]
  rfl

open Classical in
noncomputable def S33 : List AV → List AObj → Option (AV × List AObj)
  | [.ptr 0 0 0 0, .d (.sl rows)], [.arr rs 1 0] => if (rs = (decSha rs).enc ∧ (decSha rs).ok) ∧ rows.all row8 = true ∧ (decSha rs).n + rows.length < 1125899906842624 then
      some (.tup [], [.arr ((decSha rs).write (rows.map rowN)).enc 1 0]) else none
  | _, _ => none

def st33 (s : Sha) (l : List Int) : AS := ⟨[(0, .ptr 0 0 0 0), (1, .d (.sl (cl (u8D l))))], [.arr s.enc 1 0]⟩

set_option maxHeartbeats 1000000 in
theorem S33_ok : SpecO Try.prog 33 S33 := by
  obtain ⟨f52, hf52⟩ : ∃ f, f = S52 := ⟨_, rfl⟩
  have htb : TblOk Try.prog (tblAdd 52 f52 (tblA 73 (tblA 75 (tblA 77 tbl0)))) := by
    subst hf52
    exact tblAdd_ok S52_ok (tblA_ok (tblA_ok (tblA_ok (tbl0_ok _))))
  refine specO_of T_ok htb mixed Try.func33 (by kernel_rfl) rfl (by kernel_rfl) ?_
  intro args objs r objs' h
  unfold S33 at h
  split at h
  · rename_i rows rs
    split at h
    · rename_i hc
      obtain ⟨⟨h1, h2⟩, h3, h4⟩ := hc
      have h3 := cl8_of h3
      generalize rows.map rowN = l at h3 h
      generalize decSha rs = s at h1 h2 h4 h
      subst h1 h3
      rw [cl_length, u8D_length] at h4
      cases h
      refine ⟨by simp [Try.f33], ?_⟩
      have e52 : ∀ H B : List Int, H.length = 8 → B.length = 64 → f52 [.ar (u32D H), .ar (u8D B)] = some (.ar (u32D (blockP (w8 H) B))) := by
        intro H B hH hB
        obtain ⟨s, rfl⟩ := w8_of hH
        rw [hf52]
        have e1 : (u8D B).all isU8 = true := by simp [u8D, isU8]
        have e2 : (u8D B).map numD = B := by simp [u8D, numD, Function.comp_def]
        have e3 : (u32D s.list).all isU32 = true := by simp [u32D, isU32]
        have e4 : (u32D s.list).map numD = s.list := by simp [u32D, numD, Function.comp_def]
        simp only [S52]
        rw [if_pos ⟨⟨e3, rfl⟩, e1, by rw [u8D_length, hB]⟩, e2, e4]
        rfl
      clear hf52
      repeat' (first | ((conv => whnf); intro _ _) | ((conv => whnf); refine And.intro ?_ ?_ <;> intro h <;> cases h) | ((conv => whnf); refine ldMade h2 rfl ?_) | ((conv => whnf); refine ldN h2 rfl ?_) | ((conv => whnf); refine And.intro (?_ : Side _) ?_) | fail)
      all_goals (conv => whnf)
      · exact absurd ‹true = false› (by decide)
      · exact absurd ‹true = !true› (by decide)
      refine ⟨fun k σ => ∃ s' l', σ = st33 s' l' ∧ k = l'.length ∧ s'.ok ∧ s'.n + l'.length < 1125899906842624 ∧ s'.write l' = s.write l, l.length, ⟨st33 s l, atL _ ⟨rfl, rfl, trivial⟩, s, l, rfl, rfl, h2, h4, rfl⟩, ?_⟩
      rintro k σ ⟨s', l', rfl, rfl, h5, h6, h7⟩
      repeat' (first | ((conv => whnf); intro _ _) | ((conv => whnf); refine And.intro ?_ ?_ <;> intro h <;> cases h) | ((conv => whnf); refine ldMade h5 rfl ?_) | ((conv => whnf); refine ldN h5 rfl ?_) | ((conv => whnf); refine And.intro (?_ : Side _) ?_) | fail)
      all_goals (conv => whnf)
      · have hm := Nat.mod_lt s'.n (show 0 < 64 by omega)
        exact ⟨⟨⟨rfl, rfl, rfl⟩, rfl, by rw [enc_len h5]; decide⟩, by show (0 : Int) ≤ ((s'.n % 64 : Nat) : Int); omega, by show ((s'.n % 64 : Nat) : Int) ≤ 64; omega, by decide⟩
      · have hm := Nat.mod_lt s'.n (show 0 < 64 by omega)
        refine ⟨eR8 _, Nat.one_pos, rfl, rfl, ?_⟩
        rw [enc_len h5]
        show 0 + 8 + s'.n % 64 + (64 - s'.n % 64) ≤ 74
        omega
      · have hm := Nat.mod_lt s'.n (show 0 < 64 by omega)
        rename_i ha
        have ha := of_decide_eq_true ha.symm
        rw [cl_length, u8D_length] at ha
        obtain ⟨c, hc⟩ : ∃ c, c = l'.take (64 - s'.n % 64) := ⟨_, rfl⟩
        have hcl : c.length = min (64 - s'.n % 64) l'.length := by rw [hc, List.length_take]
        have h8 : (⟨s'.h, setR s'.p (s'.n % 64) c, s'.n⟩ : Sha).ok := ⟨h5.1, by show (setR s'.p _ c).length = 64; rw [setR_len _ _ _ (by rw [h5.2.1]; omega), h5.2.1], h5.2.2⟩
        generalize hR : setR s'.enc _ _ = R
        have hR : R = (⟨s'.h, setR s'.p (s'.n % 64) c, s'.n⟩ : Sha).enc := by
          rw [← enc_copy h5 (s'.n % 64) c (by omega), hc, ← cl8_take]
          exact hR.symm
        subst hR
        generalize hs1 : (⟨s'.h, setR s'.p (s'.n % 64) c, s'.n⟩ : Sha) = s1 at h8
        have hn1 : s1.n = s'.n := by rw [← hs1]
        repeat' (first | ((conv => whnf); intro _ _) | ((conv => whnf); refine And.intro ?_ ?_ <;> intro h <;> cases h) | ((conv => whnf); refine ldN h8 rfl ?_) | ((conv => whnf); refine ldHs h8 rfl ?_) | ((conv => whnf); refine ldPs h8 rfl ?_) | ((conv => whnf); refine And.intro (?_ : Side _) ?_) | fail)
        all_goals (conv => whnf)
        · exact ⟨rfl, by rw [enc_len h8]; decide⟩
        · rw [cl_length, u8D_length]
          refine ⟨⟨Int.natCast_nonneg _, by show ((min l'.length (64 - s'.n % 64) : Nat) : Int) ≤ _; omega, Int.le_refl _⟩, ?_⟩
          cases l' with
          | nil => exact .inl rfl
          | cons => exact .inr rfl
        clear hR
        have h9 : (⟨s1.h, s1.p, s1.n + c.length⟩ : Sha).ok := ⟨h8.1, h8.2.1, by show s1.n + c.length < _; omega⟩
        generalize hR : s1.enc.set _ _ = R
        have hR : R = (⟨s1.h, s1.p, s1.n + c.length⟩ : Sha).enc := by
          rw [← enc_setN h8 (s1.n + c.length), ← hR]
          refine congrArg (fun z => s1.enc.set (0 + 72) [D.int .i64 z]) ?_
          rw [cl_length, u8D_length]
          show IntKind.i64.wrap ((s1.n : Int) + ((min l'.length (64 - s'.n % 64) : Nat) : Int)) = _
          rw [show min l'.length (64 - s'.n % 64) = c.length by omega, wrap64_id (by omega) (by omega)]
          omega
        subst hR
        have hsplit : l' = c ++ l'.drop c.length := by
          by_cases h : 64 - s'.n % 64 ≤ l'.length
          · have : c.length = 64 - s'.n % 64 := by omega
            rw [this, hc, List.take_append_drop]
          · have e : c = l' := by rw [hc, List.take_of_length_le (by omega)]
            rw [e, List.drop_length, List.append_nil]
        have hwr : s'.write l' = (s'.take c).write (l'.drop c.length) := by
          conv => lhs; rw [hsplit]
          rw [write_app, write_take c s' (by omega) (by omega) h5.2.1]
        have hrest : List.drop (min (cl (u8D l')).length ((64 : Int).toNat - ((s'.n : Int).tmod 64).toNat)) (List.take (cl (u8D l')).length (cl (u8D l'))) = cl (u8D (l'.drop c.length)) := by
          rw [List.take_length, cl_length, u8D_length]
          have e : min l'.length ((64 : Int).toNat - ((s'.n : Int).tmod 64).toNat) = c.length := by
            show min l'.length (64 - s'.n % 64) = c.length
            omega
          exact (congrArg (fun z => List.drop z (cl (u8D l'))) e).trans (cl8_drop _ _)
        generalize hs2 : (⟨s1.h, s1.p, s1.n + c.length⟩ : Sha) = s2 at h9
        repeat' (first | ((conv => whnf); intro _ _) | ((conv => whnf); refine And.intro ?_ ?_ <;> intro h <;> cases h) | ((conv => whnf); refine ldN h9 rfl ?_) | ((conv => whnf); refine ldHs h9 rfl ?_) | ((conv => whnf); refine ldPs h9 rfl ?_) | ((conv => whnf); refine And.intro (?_ : Side _) ?_) | fail)
        all_goals (conv => whnf)
        · have e := e52 s2.h s2.p h9.1 h9.2.1
          generalize hX : Tbl.c _ _ _ = X
          cases (hX.symm.trans e : X = some _)
          clear hX e
          have hz := eq_of_beq (Eq.symm ‹true = ((s2.n : Int).tmod 64 == 0)›)
          have hz : s2.n % 64 = 0 := Int.ofNat.inj hz
          repeat' (first | ((conv => whnf); refine And.intro (?_ : Side _) ?_) | fail)
          all_goals (conv => whnf)
          · exact ⟨⟨rfl, rfl⟩, by rw [u32D_length, blockP_length]; rfl, by rw [u32D_length, blockP_length, enc_len h9]; decide⟩
          · refine ⟨(l'.drop c.length).length, st33 ⟨blockP (w8 s2.h) s2.p, s2.p, s2.n⟩ (l'.drop c.length), by rw [List.length_drop]; omega, WeakN.perm [0] rfl rfl ?_ ⟨⟨rfl, rfl⟩, ⟨rfl, congrArg (fun z => AV.d (D.sl z)) hrest⟩, trivial⟩, _, l'.drop c.length, rfl, rfl, ⟨blockP_length _ _, h9.2⟩, ?_, ?_⟩
            · exact congrArg (fun z => [AObj.arr z 1 0]) (enc_setH h9 _ (blockP_length _ _))
            · show s2.n + _ < _
              rw [← hs2, List.length_drop]
              show s1.n + c.length + _ < _
              omega
            · rw [← h7, hwr]
              congr 1
              rw [← hs2] at hz ⊢
              subst hs1
              unfold Sha.take
              rw [if_pos hz]
        · have hz : s2.n % 64 ≠ 0 := by
            intro hz
            have h0 : ((s2.n : Int).tmod 64 == 0) = true := by
              have : (s2.n : Int).tmod 64 = ((s2.n % 64 : Nat) : Int) := rfl
              rw [this, hz]; rfl
            have hf := Eq.symm ‹false = ((s2.n : Int).tmod 64 == 0)›
            rw [h0] at hf
            cases hf
          refine ⟨(l'.drop c.length).length, st33 s2 (l'.drop c.length), by rw [List.length_drop]; omega, WeakN.perm [0] rfl rfl rfl ⟨⟨rfl, rfl⟩, ⟨rfl, congrArg (fun z => AV.d (D.sl z)) hrest⟩, trivial⟩, _, l'.drop c.length, rfl, rfl, h9, ?_, ?_⟩
          · show s2.n + _ < _
            rw [← hs2, List.length_drop]
            show s1.n + c.length + _ < _
            omega
          · rw [← h7, hwr]
            congr 1
            rw [← hs2] at hz ⊢
            subst hs1
            unfold Sha.take
            rw [if_neg hz]
      · rename_i ha
        have ha := of_decide_eq_false ha.symm
        rw [cl_length, u8D_length] at ha
        exact ⟨rfl, congrArg (fun z => [AObj.arr (Sha.enc z) 1 0]) (by rw [← h7, List.eq_nil_of_length_eq_zero (show l'.length = 0 by omega)]; rfl)⟩
    · cases h
  · cases h
end Go.Proofs.Ytejejeginfjnjaa
