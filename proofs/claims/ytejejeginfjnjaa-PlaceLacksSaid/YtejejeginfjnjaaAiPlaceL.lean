/- A new sum, and what it tells, as the program does it; the rank of a node, on both sides. -/
import Derived.Test.YtejejeginfjnjaaAiPlaceJ
import Derived.Test.YtejejeginfjnjaaAiPlaceK
import Derived.Test.YtejejeginfjnjaaAiPlaceN
namespace Go.Proofs.Ytejejeginfjnjaa
open Go Go.AI
set_option linter.unusedVariables false

def sha0 : Sha := ⟨H8, List.replicate 64 0, 0⟩
theorem sha0_ok : sha0.ok := ⟨rfl, by simp [sha0], by show 0 < _; omega⟩

def S32 : List AV → List AObj → Option (AV × List AObj)
  | [], [] => some (.ptr 0 0 0 0, [.arr sha0.enc 1 0])
  | _, _ => none

set_option maxRecDepth 100000 in
theorem build0 : aVal T (tblAdd 51 S51 (tblA 73 (tblA 75 (tblA 77 tbl0)))) (.build 77 #[(0, .tmp 1), (3, .const (Value.bool true))]) (AS.eval ⟨(1, AV.ar (u32D H8)) :: (0, AV.d D.nilp) :: ini 0 [], []⟩) [] = some (.agg (sha0.enc.map fun r => .d (r.getD 0 .nilp))) := by
  kernel_rfl
set_option maxRecDepth 100000 in
theorem S32_ok : SpecO Try.prog 32 S32 := by
  refine specO_of (tbl := tblAdd 51 S51 (tblA 73 (tblA 75 (tblA 77 tbl0)))) T_ok (tblAdd_ok S51_ok (tblA_ok (tblA_ok (tblA_ok (tbl0_ok _))))) mixed Try.func32 (by kernel_rfl) rfl (by kernel_rfl) ?_
  intro args objs r objs' h
  unfold S32 at h
  split at h
  · cases h
    refine ⟨by simp, ?_⟩
    conv => whnf
    generalize hX : aVal _ _ _ _ _ = X
    cases (hX.symm.trans build0 : X = some _)
    clear hX
    conv => whnf
    exact ⟨rfl, rfl⟩
  · cases h

theorem ldSha {P : Prop} {s : Sha} {k : List D → Prop} (h : s.ok) (hp : P) (hk : k (s.enc.map fun r => r.getD 0 .nilp)) : ∃ r, Side (P ∧ 0 + 0 + 74 ≤ s.enc.length ∧ (((s.enc.drop (0 + 0)).take 74).map fun r => r.getD 0 .nilp) = r) ∧ k r := by
  refine ⟨_, ⟨hp, by rw [enc_len h]; decide, ?_⟩, hk⟩
  show ((s.enc.take 74).map _) = _
  rw [List.take_of_length_le (by rw [enc_len h]; decide)]
theorem enc_all {s : Sha} (h : s.ok) (z : List (List D)) (hz : z.length = 74) : setR z (0 + 0) ((s.enc.map fun r => r.getD 0 .nilp).map fun d => [d]) = s.enc := by
  rw [setR_all (by rw [List.length_map, List.length_map, enc_len h, hz])]
  simp [Sha.enc, cl, Function.comp_def]

open Classical in
noncomputable def S34 : List AV → List AObj → Option (AV × List AObj)
  | [.ptr 0 0 0 0], [.arr rs 1 0] => if (rs = (decSha rs).enc ∧ (decSha rs).ok) ∧ (decSha rs).n < 1099511627776 then
      some (.d (.str (toldB ((decSha rs).write (padB (decSha rs).n)).h)), [.arr rs 1 0]) else none
  | _, _ => none

theorem ok_len {s : Sha} (h : s.ok) {l : List Int} (hn : s.n + l.length < 1125899906842624) : (s.write l).ok := by
  induction l generalizing s with
  | nil => exact h
  | cons b l ih =>
    simp only [List.length_cons] at hn
    have e : s.write (b :: l) = (s.one b).write l := rfl
    rw [e]
    have h1 : (s.one b).ok := by
      have := Sha.take_ok (c := [b]) h (by have := Nat.mod_lt s.n (show 0 < 64 by omega); simp; omega) (by simp; omega)
      rw [← write_take [b] s (by simp) (by have := Nat.mod_lt s.n (show 0 < 64 by omega); simp; omega) h.2.1] at this
      exact this
    refine ih h1 ?_
    show s.n + 1 + l.length < _
    omega

theorem s33_at {f33 : List AV → List AObj → Option (AV × List AObj)} (hf : f33 = S33) {s : Sha} (h : s.ok) (l : List Int) (hn : s.n + l.length < 1125899906842624) :
    f33 [.ptr 0 0 0 0, .d (.sl (cl (u8D l)))] [.arr s.enc 1 0] = some (.tup [], [.arr (s.write l).enc 1 0]) := by
  rw [hf]
  simp only [S33]
  rw [dec_enc h, if_pos ⟨⟨rfl, h⟩, by simp [cl, u8D, row8], by rw [cl_length, u8D_length]; exact hn⟩]
  have e2 : (cl (u8D l)).map rowN = l := by simp [cl, u8D, rowN, Function.comp_def]
  rw [e2]

theorem S34_ok : SpecO Try.prog 34 S34 := by
  obtain ⟨f33, hf33⟩ : ∃ f, f = S33 := ⟨_, rfl⟩
  obtain ⟨f53, hf53⟩ : ∃ f, f = S53 := ⟨_, rfl⟩
  obtain ⟨f54, hf54⟩ : ∃ f, f = S54 := ⟨_, rfl⟩
  have htb : TblOk Try.prog (tblAddO 33 f33 (tblAdd 53 f53 (tblAdd 54 f54 (tblA 73 (tblA 75 (tblA 77 tbl0)))))) := by
    subst hf33 hf53 hf54
    exact tblAddO_ok S33_ok (tblAdd_ok S53_ok (tblAdd_ok S54_ok (tblA_ok (tblA_ok (tblA_ok (tbl0_ok _))))))
  refine specO_of T_ok htb mixed Try.func34 (by kernel_rfl) rfl (by kernel_rfl) ?_
  intro args objs r objs' h
  unfold S34 at h
  split at h
  · rename_i rs
    split at h
    · rename_i hc
      obtain ⟨⟨h1, h2⟩, h3⟩ := hc
      generalize decSha rs = s at h1 h2 h3 h
      subst h1
      cases h
      refine ⟨by simp [Try.f34], ?_⟩
      have hz := zN_lt s.n
      have e53 : f53 [.d (.int .i64 (s.n : Int))] = some (.d (.sl (cl (u8D (padB s.n))))) := by
        rw [hf53]
        simp only [S53]
        rw [if_pos ⟨by omega, by omega⟩, Int.toNat_natCast]
      have hl : s.n + (padB s.n).length < 1125899906842624 := by rw [padB_length]; omega
      have e33 := s33_at hf33 h2 (padB s.n) hl
      have h4 := ok_len h2 hl
      have e54 : f54 [.ar (u32D (s.write (padB s.n)).h)] = some (.d (.str (toldB (s.write (padB s.n)).h))) := by
        rw [hf54]
        have e3 : (u32D (s.write (padB s.n)).h).all isU32 = true := by simp [u32D, isU32]
        have e4 : (u32D (s.write (padB s.n)).h).map numD = (s.write (padB s.n)).h := by simp [u32D, numD, Function.comp_def]
        simp only [S54]
        rw [if_pos ⟨e3, by rw [u32D_length, h4.1]⟩, e4]
      clear hf33 hf53 hf54
      repeat' (first | ((conv => whnf); intro _ _) | ((conv => whnf); refine And.intro ?_ ?_ <;> intro h <;> cases h) | ((conv => whnf); refine ldMade h2 rfl ?_) | ((conv => whnf); refine ldN h2 rfl ?_) | ((conv => whnf); refine ldSha h2 rfl ?_) | ((conv => whnf); refine And.intro (?_ : Side _) ?_) | fail)
      all_goals (conv => whnf)
      · exact absurd ‹true = false› (by decide)
      · exact absurd ‹true = !true› (by decide)
      · exact ⟨⟨rfl, rfl⟩, by rw [List.length_map, enc_len h2]; rfl, by rw [List.length_map, enc_len h2]; decide⟩
      generalize hR : setR _ (0 + 0) _ = R
      have hR : R = s.enc := by rw [← hR]; exact enc_all h2 _ rfl
      subst hR
      clear hR
      generalize hX : Tbl.c _ _ _ = X
      cases (hX.symm.trans e53 : X = some _)
      clear hX
      conv => whnf
      generalize hX : Tbl.o _ _ _ _ = X
      cases (hX.symm.trans e33 : X = some _)
      clear hX
      repeat' (first | ((conv => whnf); intro _ _) | ((conv => whnf); refine And.intro ?_ ?_ <;> intro h <;> cases h) | ((conv => whnf); refine ldHs h4 rfl ?_) | ((conv => whnf); refine And.intro (?_ : Side _) ?_) | fail)
      all_goals (conv => whnf)
      generalize hX : Tbl.c _ _ _ = X
      cases (hX.symm.trans e54 : X = some _)
      clear hX
      conv => whnf
      exact ⟨rfl, rfl⟩
    · cases h
  · cases h

def textI (s : List UInt8) : List Int := s.map fun b => (b.toNat : Int)
theorem bs_cl (s : List UInt8) : bs s = .sl (cl (u8D (textI s))) := by simp [bs, cl, u8D, textI, Function.comp_def]
def rankL (s : List UInt8) (k : Int) : List Int := textI s ++ [IntKind.u8.wrap k]
theorem rankL_length (s : List UInt8) (k : Int) : (rankL s k).length = s.length + 1 := by simp [rankL, textI]
def rankP (s : List UInt8) (k : Int) : List UInt8 := toldB (((sha0.write (rankL s k)).write (padB (s.length + 1))).h)

theorem write_n (s : Sha) (l : List Int) : (s.write l).n = s.n + l.length := by
  induction l generalizing s with
  | nil => rfl
  | cons b l ih =>
    show ((s.one b).write l).n = _
    rw [ih]
    show s.n + 1 + l.length = _
    rw [List.length_cons]; omega

theorem s34_at {f34 : List AV → List AObj → Option (AV × List AObj)} (hf : f34 = S34) {s : Sha} (h : s.ok) (hn : s.n < 1099511627776) :
    f34 [.ptr 0 0 0 0] [.arr s.enc 1 0] = some (.d (.str (toldB (s.write (padB s.n)).h)), [.arr s.enc 1 0]) := by
  rw [hf]
  simp only [S34]
  rw [dec_enc h, if_pos ⟨⟨rfl, h⟩, hn⟩]

def S22 : List AV → Option AV
  | [.d (.str s), .d (.int .i64 k)] => if s.length < 549755813888 then some (.d (.str (rankP s k))) else none
  | _ => none

theorem S22_ok : SpecOk Try.prog 22 S22 := by
  obtain ⟨f33, hf33⟩ : ∃ f, f = S33 := ⟨_, rfl⟩
  obtain ⟨f34, hf34⟩ : ∃ f, f = S34 := ⟨_, rfl⟩
  obtain ⟨f32, hf32⟩ : ∃ f, f = S32 := ⟨_, rfl⟩
  have htb : TblOk Try.prog (tblAddO 32 f32 (tblAddO 33 f33 (tblAddO 34 f34 (tblCv 9 2 tbl0)))) := by
    subst hf33 hf34 hf32
    exact tblAddO_ok S32_ok (tblAddO_ok S33_ok (tblAddO_ok S34_ok (tblCv_ok (tbl0_ok _))))
  refine spec_of T_ok htb mixed Try.func22 (by kernel_rfl) rfl (by kernel_rfl) ?_
  intro args r h
  unfold S22 at h
  split at h
  · rename_i s k
    split at h
    · rename_i hs
      cases h
      refine ⟨by simp [Try.f22], rfl, rfl, ?_⟩
      have hl : (textI s).length = s.length := by simp [textI]
      have e32 : f32 [] [] = some (.ptr 0 0 0 0, [.arr sha0.enc 1 0]) := by rw [hf32]; rfl
      have h0 : sha0.n + (textI s).length < 1125899906842624 := by rw [hl]; show 0 + _ < _; omega
      have e33 := s33_at hf33 sha0_ok (textI s) h0
      have h1 := ok_len sha0_ok h0
      have n1 := write_n sha0 (textI s)
      have h2 : (sha0.write (textI s)).n + [IntKind.u8.wrap k].length < 1125899906842624 := by rw [n1, hl]; show 0 + _ + 1 < _; omega
      have e33b := s33_at hf33 h1 [IntKind.u8.wrap k] h2
      have h3 := ok_len h1 h2
      have n2 := write_n (sha0.write (textI s)) [IntKind.u8.wrap k]
      rw [← write_app] at e33b h3 n2
      have n3 : (sha0.write (textI s ++ [IntKind.u8.wrap k])).n = s.length + 1 := by rw [n2, n1, hl]; show 0 + _ + 1 = _; omega
      have e34 := s34_at hf34 h3 (by rw [n3]; omega)
      rw [n3] at e34
      rw [← bs_cl] at e33
      clear hf32 hf33 hf34
      conv => whnf
      generalize hX : Tbl.o _ _ _ _ = X
      cases (hX.symm.trans e32 : X = some _)
      clear hX
      conv => whnf
      generalize hX : Tbl.o _ _ _ _ = X
      cases (hX.symm.trans e33 : X = some _)
      clear hX
      conv => whnf
      generalize hX : Tbl.o _ _ _ _ = X
      cases (hX.symm.trans e33b : X = some _)
      clear hX
      conv => whnf
      generalize hX : Tbl.o _ _ _ _ = X
      cases (hX.symm.trans e34 : X = some _)
      clear hX
      conv => whnf
      rfl
    · cases h
  · cases h

theorem textI_u8 (s : List UInt8) : (s.map fun b => [D.int .u8 (b.toNat : Int)]) = cl (u8D (textI s)) := by simp [cl, u8D, textI, Function.comp_def]

def S25 : List AV → Option AV
  | [.d (.str s), .d (.int .i64 k)] => if s.length < 549755813888 then some (.d (.str (sumQ (rankL s k)))) else none
  | _ => none

theorem S25_ok : SpecOk Try.prog 25 S25 := by
  obtain ⟨f37, hf37⟩ : ∃ f, f = S37 := ⟨_, rfl⟩
  have htb : TblOk Try.prog (tblAddO 37 f37 (tblCv 9 3 tbl0)) := by
    subst hf37
    exact tblAddO_ok S37_ok (tblCv_ok (tbl0_ok _))
  refine spec_of T_ok htb mixed Try.func25 (by kernel_rfl) rfl (by kernel_rfl) ?_
  intro args r h
  unfold S25 at h
  split at h
  · rename_i s k
    split at h
    · rename_i hs
      cases h
      refine ⟨by simp [Try.f25], rfl, rfl, ?_⟩
      have hl : (textI s).length = s.length := by simp [textI]
      have e37 : f37 [.win 0 0 (s.length + 1) 2] [.arr (cl (u8D (rankL s k))) 1 2] = some (.d (.str (sumQ (rankL s k))), [.arr (cl (u8D (rankL s k))) 1 2]) := by
        rw [hf37]
        simp only [S37]
        have e2 : (cl (u8D (rankL s k))).map rowN = rankL s k := by simp [cl, u8D, rowN, Function.comp_def]
        rw [if_pos ⟨by simp [cl, u8D, row8], by rw [cl_length, u8D_length, rankL_length], by rw [cl_length, u8D_length, rankL_length]; omega⟩, e2]
      clear hf37
      repeat' (first | ((conv => whnf); intro _ _) | ((conv => whnf); refine Or.inl ?_) | ((conv => whnf); refine And.intro (?_ : Side _) ?_) | fail)
      all_goals (conv => whnf)
      · exact apW (l := [IntKind.u8.wrap k]) (by rw [List.length_map]; omega) rfl (by decide) (by show s.length + 1 ≤ _; omega)
      generalize hR : List.drop 0 (List.map _ s) ++ _ = R
      have hR : R = cl (u8D (rankL s k)) := by
        rw [← hR, rankL, ← cl8_app, ← textI_u8]
        rfl
      subst hR
      clear hR
      generalize hX : Tbl.o _ _ _ _ = X
      cases (hX.symm.trans e37 : X = some _)
      clear hX
      conv => whnf
    · cases h
  · cases h

theorem write_run {A : List Int} (hA : isB A) : ∀ (q : Nat), 64 * q ≤ A.length → (sha0.write (A.take (64 * q))).h = runQ A q ∧ (sha0.write (A.take (64 * q))).n = 64 * q ∧ (sha0.write (A.take (64 * q))).p.length = 64
  | 0, _ => by rw [Nat.mul_zero, List.take_zero]; exact ⟨rfl, rfl, by simp [Sha.write, sha0]⟩
  | q + 1, h => by
    obtain ⟨h1, h2, h3⟩ := write_run hA q (by omega)
    obtain ⟨c, hc⟩ : ∃ c, c = (A.drop (64 * q)).take 64 := ⟨_, rfl⟩
    have hcl : c.length = 64 := by rw [hc, List.length_take, List.length_drop]; omega
    have e : A.take (64 * (q + 1)) = A.take (64 * q) ++ c := by
      rw [hc, show 64 * (q + 1) = 64 * q + 64 by omega, List.take_add]
    have hm : (64 * q) % 64 = 0 := by omega
    rw [e, write_app]
    generalize sha0.write (A.take (64 * q)) = s at h1 h2 h3 ⊢
    rw [write_take c s (by omega) (by rw [h2]; omega) h3]
    have e0 : setR s.p (s.n % 64) c = c := by
      rw [h2, hm]
      exact setR_all (by rw [hcl, h3])
    have hB : isB c := by
      intro x hx
      rw [hc] at hx
      exact hA x (List.mem_of_mem_drop (List.mem_of_mem_take hx))
    refine ⟨?_, ?_, ?_⟩
    · show (if (s.n + c.length) % 64 = 0 then blockP (w8 s.h) (setR s.p (s.n % 64) c) else s.h) = _
      rw [if_pos (by rw [h2, hcl]; omega), e0, h1, runQ, ← hc]
      exact block_eq _ hB
    · show s.n + c.length = _
      rw [h2, hcl]; omega
    · show (setR s.p (s.n % 64) c).length = 64
      rw [e0, hcl]

theorem isB_app {a b : List Int} (ha : isB a) (hb : isB b) : isB (a ++ b) := by
  intro x hx
  rcases List.mem_append.1 hx with h | h
  · exact ha x h
  · exact hb x h
theorem isB_rank (s : List UInt8) (k : Int) : isB (rankL s k) := by
  refine isB_app ?_ ?_
  · intro x hx
    obtain ⟨b, _, rfl⟩ := List.mem_map.1 hx
    have := b.toNat_lt
    omega
  · intro x hx
    rw [List.mem_singleton] at hx
    subst hx
    have : IntKind.u8.wrap k = k % 256 := by simp [IntKind.wrap, IntKind.bits, IntKind.signed]
    rw [this]; omega
theorem isB_pad (n : Nat) : isB (padB n) := by
  intro x hx
  simp only [padB, List.mem_cons, List.mem_append, List.mem_replicate, tails, List.not_mem_nil, or_false, be8] at hx
  rcases hx with rfl | ⟨_, rfl⟩ | h
  · omega
  · omega
  · rcases h with rfl | rfl | rfl | rfl | rfl | rfl | rfl | rfl <;> omega

/-- Both tell the same rank. -/
theorem rank_eq (s : List UInt8) (k : Int) : rankP s k = sumQ (rankL s k) := by
  have hl := rankL_length s k
  have hA : isB (allB (rankL s k)) := isB_app (isB_rank s k) (isB_pad _)
  have hlen := allB_length (rankL s k)
  have := (write_run hA ((allB (rankL s k)).length / 64) (by omega)).1
  rw [List.take_of_length_le (by omega)] at this
  rw [rankP, sumQ, ← this, ← write_app, ← hl]
  rfl
end Go.Proofs.Ytejejeginfjnjaa
