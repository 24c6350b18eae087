/- The members of a set, one behind the other: an iterator's contract. -/
import Derived.Test.YtnephacfnbcdeaaAiPeersC
import Derived.RangeFuncKeeps
import Derived.RangeFuncLeaves
import Derived.Shelf.Abstract
import Derived.OwnWalkIn
import Derived.TacticsInMore
import Derived.LoopNIn
import Derived.LoopIn
namespace Go.Proofs.Ytnephacfnbcdeaa
open Go Go.AI Go.RowKit Go.Shelf

def dInt (n : Nat) : D := .int .i64 (n : Int)
def it52 (c : Int) : ItC := { dom := fun r => ∃ n : Nat, n < 7 ∧ r = dInt n, S := fun xs => xs = (upTo (msk c) 7).map dInt, N := 7 }

theorem has_calls (c : Int) (i : Nat) (hi : i < 7) (W : World) : Calls Try.prog 24 #[.int .i64 c, .int .i64 (i : Int)] W fun e w' => e = .returned (.bool ((msk c).testBit i)) ∧ W.grownBy w' none := by
  have h := S24_ok [.d (.int .i64 c), .d (.int .i64 (i : Int))] _ rfl
  refine (h.2.2 (fun _ => False) W #[.int .i64 c, .int .i64 (i : Int)] (fun _ h => h.elim) rfl ?_).mono ?_
  · intro j hj
    have : j = 0 ∨ j = 1 := by simp at hj; omega
    rcases this with rfl | rfl
    · exact .d _ _ (.int _ _)
    · exact .d _ _ (.int _ _)
  · rintro e w' ⟨v, rfl, hv, hf⟩
    have := relD_bool hv
    rw [hasB_nat c hi] at this
    exact ⟨by rw [this], hf.os, hf.tape, hf.output, hf.size, fun k hk _ => hf.same k hk (fun h => h)⟩

def left52 : Value → Nat
  | .int _ i => (7 - i).toNat
  | _ => 0

set_option maxRecDepth 100000 in
set_option maxHeartbeats 1000000 in
theorem members_in (F : Fence) (n : Nat) (hF : Wide F) (hro : F.round = none) (hn : 1 ≤ n) (l : Nat) (c : Int) (p : Addr) (J Jx : List {r : D // (it52 c).dom r} → World → Prop) (W : World) (hJ : AbidesFrom W.heap.size J)
    (hY : ∀ pre x W, J pre W → pre.length < 7 → YieldAt F (n - 1) Try.prog l #[x.1.val] W fun e W' =>
      (e = .returned (.bool true) ∧ J (pre ++ [x]) W' ∧ KpC p (.int .i64 c) W W') ∨ (e = .returned (.bool false) ∧ Jx (pre ++ [x]) W'))
    (hc : W.cell? p = some (.int .i64 c)) (h0 : J [] W) :
    CallsIn F n Try.prog 52 #[.func (.yield l) #[] #[], .pointer (some p)] W fun e W' => (∃ v, e = .returned v) ∧
      ((∃ xs, (it52 c).S (xs.map (·.1)) ∧ J xs W') ∨ (∃ pre, True ∧ Jx pre W')) := by
  have h24 : ∀ (i : Nat), i < 7 → ∀ W, CallsIn F (n - 1) Try.prog 24 #[.int .i64 c, .int .i64 (i : Int)] W fun e w' => e = .returned (.bool ((msk c).testBit i)) ∧ W.grownBy w' none :=
    fun i hi W => hF.calls (has_calls c i hi W)
  have hd := hF.depth
  have hfn := hF.fn
  refine callsIn_of_wp Try.func52 rfl (hF.fn 52) ?_ hro
  simp only [Try.ntmps52, List.size_toArray, List.length_cons, List.length_nil, Nat.reduceAdd, Nat.reduceSub, Array.replicate_succ, Array.replicate_zero, List.push_toArray, List.append_toArray, List.nil_append, List.cons_append]
  gi_wp2
  gi_loopw [4] (fun p' wr => ∃ (i : Nat) (pre : List {r : D // (it52 c).dom r}), p' = .int .i64 (i : Int) ∧ i ≤ 7 ∧ pre.map (·.1) = (upTo (msk c) i).map dInt ∧ J pre wr ∧ wr.cell? p = some (.int .i64 c))
    (fun p' wr => left52 p')
  case atStart =>
    exact ⟨0, [], rfl, by omega, rfl, h0, hc⟩
  case round =>
    obtain ⟨i, pre, rfl, hi, hpre, hJs, hcs⟩ := hrel
    by_cases h7 : i < 7
    · have h7z : (i : Int) < 7 := by omega
      have hg24 := h24 i h7 wr
      have hlen : pre.length < 7 := by
        have := congrArg List.length hpre
        simp at this
        have := upTo_length (msk c) i
        omega
      have hJw : ∀ w', wr.grownBy w' none → J pre w' ∧ w'.cell? p = some (.int .i64 c) := fun w' hg =>
        ⟨hJ _ _ _ none hJs hg (fun r e => by cases e), (cell_congr (hg.block p.block (cell_lt hcs) (by simp))).trans hcs⟩
      gi_wp2_with (gi_at_call 24; refine hg24.mono ?_; rintro e w' ⟨rfl, hg⟩)
      · rename_i hb
        obtain ⟨hJ1, hc1⟩ := hJw w' hg
        obtain ⟨fn, tmps, assign, body, hy, hR⟩ := hY pre ⟨dInt i, i, h7, rfl⟩ w' hJ1 hlen
        have hy : (Instr.yield l #[.int .i64 (i : Int)]).run Try.prog w' = .ok (.round l fn tmps assign body) w' := hy
        gi_wp2
        refine hR.mono ?_
        rintro e W3 (⟨rfl, hJ3, hk3⟩ | ⟨rfl, hJx3⟩)
        · gi_wp2
          refine ⟨⟨i + 1, pre ++ [⟨dInt i, i, h7, rfl⟩], by simp, by omega, by simp [upTo, ‹(msk c).testBit i = true›, hpre], hJ3, hk3 hc1⟩, ?_⟩
          simp only [left52]; omega
        · gi_wp2
          refine bodyPost_ret (results_none rfl _ _ _) rfl ?_
          exact ⟨⟨_, rfl⟩, .inr ⟨_, trivial, hJx3⟩⟩
      · rename_i hb
        obtain ⟨hJ1, hc1⟩ := hJw w' hg
        refine ⟨⟨i + 1, pre, by simp, by omega, by simp [upTo, hb, hpre], hJ1, hc1⟩, ?_⟩
        simp only [left52]; omega
    · have h7' : i = 7 := by omega
      subst h7'
      gi_wp2
      go_end0
      exact ⟨⟨_, rfl⟩, .inl ⟨pre, hpre, hJs⟩⟩

def S52 : D → Option ItC
  | .int .i64 c => some (it52 c)
  | _ => none

theorem S52_ok : ∀ x it, S52 x = some it → ItOk Try.prog 52 x it := by
  intro x it h
  unfold S52 at h
  split at h
  · rename_i c
    cases h
    refine ⟨enters_of Try.func52 (by kernel_rfl) rfl, ?_, ?_, ?_⟩
    · rintro r ⟨n, _, rfl⟩ w Wr
      exact .int _ _
    · intro w Wr v hv
      cases hv; rfl
    · intro Fe n w p hF hro hn hc l J Jx W hW hJ _ hY h0
      refine members_in Fe n hF hro (by omega) l c p J Jx W hJ hY ?_ h0
      exact (hW.cell (p := p) (cell_lt hc)).trans hc
  · cases h
end Go.Proofs.Ytnephacfnbcdeaa
