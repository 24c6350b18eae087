/-
  No cell of these rows narrows 'for every input' (looked for: loops, veiled, ifaces, maps, wideKeys, modest, calm, conditions, laid).
  DERIVED. THE GIVEN ROWS OF THIS SEAT. 9 by the template 'for every input the law returns true; each argument reads behind the call as it read before'; 0 by the template 'total and deterministic' (their statements: YtnephacfnbcdeaaTotals.lean).
  GIVEN WITH THE SEED: the statements are not yours to turn. If you find one false, say at which input.
  Laid BY PROGRAM, IN A SANDBOX (cutbox-rows.mjs): the forced cells as the released guide's own fill.sh prints them over the translation ffa45dd9b8a09a50… (all of the seat's roots in one cut). By AI agents, Wed Nov 11 2026. No macro, syntax, notation, axiom, sorry.
-/
import Derived.Test.YtnephacfnbcdeaaChecked
import GoSem.Claim
import GoSem.ClaimJoined
import GoSem.ClaimMapViews
import Derived.JoinedTies
import Derived.KernelRfl
namespace Go.Proofs.Ytnephacfnbcdeaa
/- THE CELL 'sum', in the pinned program and in every row, IS THE sha256 OF THE DUMP (.gsa) THAT YtnephacfnbcdeaaProg.lean LOADS. Nothing in Lean hashes anything: it is a label: what it is worth is what the hold of that sum in a sandbox is worth. -/
noncomputable def Try.pinned : Pinned := { name := "ytnephacfnbcdeaa", sum := "ffa45dd9b8a09a503143472169b8b2d86ea9184d1a4bee03e2197a5333cd80fe", checked := Try.checked }
namespace Rows
def none {H : Type} : Left H := { results := [], args := [] }

/-- 'baileylaw15.BallotFresh': WHATEVER THE INPUT: true; the input reads as it did. -/
def ballotFreshSpec : ChangeSpec := { name := "ballotFresh", fn := fun _ => fun
  | [d1, d2, d3, d4] => { results := [.lit (.bool true)], args := [d1, d2, d3, d4] }
  | _ => none }
def ballotFreshRow : OpenClaim := { program := "ytnephacfnbcdeaa", sum := "ffa45dd9b8a09a503143472169b8b2d86ea9184d1a4bee03e2197a5333cd80fe", func := "bailey/baileylaw15.BallotFresh", spec := "ballotFresh", apart := false }
def BallotFreshSaid : Prop := ballotFreshRow.holds Try.pinned (OpenSpec.ofChange ballotFreshSpec)

/-- ITS FALSE NEIGHBOUR: 'it returns false'. Refute it at one input. -/
def ballotFreshWrong : ChangeSpec := { name := "ballotFresh", fn := fun _ => fun
  | [d1, d2, d3, d4] => { results := [.lit (.bool false)], args := [d1, d2, d3, d4] }
  | _ => none }
def BallotFreshWrongFalsely : Prop := ballotFreshRow.holds Try.pinned (OpenSpec.ofChange ballotFreshWrong)

/-- 'baileylaw15.BallotApart': WHATEVER THE INPUT: true; the input reads as it did. -/
def ballotApartSpec : ChangeSpec := { name := "ballotApart", fn := fun _ => fun
  | [d1, d2] => { results := [.lit (.bool true)], args := [d1, d2] }
  | _ => none }
def ballotApartRow : OpenClaim := { program := "ytnephacfnbcdeaa", sum := "ffa45dd9b8a09a503143472169b8b2d86ea9184d1a4bee03e2197a5333cd80fe", func := "bailey/baileylaw15.BallotApart", spec := "ballotApart", apart := false }
def BallotApartSaid : Prop := ballotApartRow.holds Try.pinned (OpenSpec.ofChange ballotApartSpec)

/-- ITS FALSE NEIGHBOUR: 'it returns false'. Refute it at one input. -/
def ballotApartWrong : ChangeSpec := { name := "ballotApart", fn := fun _ => fun
  | [d1, d2] => { results := [.lit (.bool false)], args := [d1, d2] }
  | _ => none }
def BallotApartWrongFalsely : Prop := ballotApartRow.holds Try.pinned (OpenSpec.ofChange ballotApartWrong)

/-- 'baileylaw15.BallotBack': WHATEVER THE INPUT: true; the input reads as it did. -/
def ballotBackSpec : ChangeSpec := { name := "ballotBack", fn := fun _ => fun
  | [d1, d2, d3] => { results := [.lit (.bool true)], args := [d1, d2, d3] }
  | _ => none }
def ballotBackRow : OpenClaim := { program := "ytnephacfnbcdeaa", sum := "ffa45dd9b8a09a503143472169b8b2d86ea9184d1a4bee03e2197a5333cd80fe", func := "bailey/baileylaw15.BallotBack", spec := "ballotBack", apart := false }
def BallotBackSaid : Prop := ballotBackRow.holds Try.pinned (OpenSpec.ofChange ballotBackSpec)

/-- ITS FALSE NEIGHBOUR: 'it returns false'. Refute it at one input. -/
def ballotBackWrong : ChangeSpec := { name := "ballotBack", fn := fun _ => fun
  | [d1, d2, d3] => { results := [.lit (.bool false)], args := [d1, d2, d3] }
  | _ => none }
def BallotBackWrongFalsely : Prop := ballotBackRow.holds Try.pinned (OpenSpec.ofChange ballotBackWrong)

/-- 'baileylaw15.BallotRises': WHATEVER THE INPUT: true; the input reads as it did. -/
def ballotRisesSpec : ChangeSpec := { name := "ballotRises", fn := fun _ => fun
  | [d1, d2, d3, d4, d5] => { results := [.lit (.bool true)], args := [d1, d2, d3, d4, d5] }
  | _ => none }
def ballotRisesRow : OpenClaim := { program := "ytnephacfnbcdeaa", sum := "ffa45dd9b8a09a503143472169b8b2d86ea9184d1a4bee03e2197a5333cd80fe", func := "bailey/baileylaw15.BallotRises", spec := "ballotRises", unfollowed := true, recurses := true, apart := false }
def BallotRisesSaid : Prop := ballotRisesRow.holds Try.pinned (OpenSpec.ofChange ballotRisesSpec)

/-- ITS FALSE NEIGHBOUR: 'it returns false'. Refute it at one input. -/
def ballotRisesWrong : ChangeSpec := { name := "ballotRises", fn := fun _ => fun
  | [d1, d2, d3, d4, d5] => { results := [.lit (.bool false)], args := [d1, d2, d3, d4, d5] }
  | _ => none }
def BallotRisesWrongFalsely : Prop := ballotRisesRow.holds Try.pinned (OpenSpec.ofChange ballotRisesWrong)

/-- 'baileylaw12.PeersMatch': WHATEVER THE INPUT: true; the input reads as it did. -/
def peersMatchSpec : ChangeSpec := { name := "peersMatch", fn := fun _ => fun
  | [d1, d2] => { results := [.lit (.bool true)], args := [d1, d2] }
  | _ => none }
def peersMatchRow : OpenClaim := { program := "ytnephacfnbcdeaa", sum := "ffa45dd9b8a09a503143472169b8b2d86ea9184d1a4bee03e2197a5333cd80fe", func := "bailey/baileylaw12.PeersMatch", spec := "peersMatch", unfollowed := true, recurses := true, apart := false }
def PeersMatchSaid : Prop := peersMatchRow.holds Try.pinned (OpenSpec.ofChange peersMatchSpec)

/-- ITS FALSE NEIGHBOUR: 'it returns false'. Refute it at one input. -/
def peersMatchWrong : ChangeSpec := { name := "peersMatch", fn := fun _ => fun
  | [d1, d2] => { results := [.lit (.bool false)], args := [d1, d2] }
  | _ => none }
def PeersMatchWrongFalsely : Prop := peersMatchRow.holds Try.pinned (OpenSpec.ofChange peersMatchWrong)

/-- 'baileylaw12.PeersMeet': WHATEVER THE INPUT: true; the input reads as it did. -/
def peersMeetSpec : ChangeSpec := { name := "peersMeet", fn := fun _ => fun
  | [d1, d2, d3, d4] => { results := [.lit (.bool true)], args := [d1, d2, d3, d4] }
  | _ => none }
def peersMeetRow : OpenClaim := { program := "ytnephacfnbcdeaa", sum := "ffa45dd9b8a09a503143472169b8b2d86ea9184d1a4bee03e2197a5333cd80fe", func := "bailey/baileylaw12.PeersMeet", spec := "peersMeet", unfollowed := true, recurses := true, apart := false }
def PeersMeetSaid : Prop := peersMeetRow.holds Try.pinned (OpenSpec.ofChange peersMeetSpec)

/-- ITS FALSE NEIGHBOUR: 'it returns false'. Refute it at one input. -/
def peersMeetWrong : ChangeSpec := { name := "peersMeet", fn := fun _ => fun
  | [d1, d2, d3, d4] => { results := [.lit (.bool false)], args := [d1, d2, d3, d4] }
  | _ => none }
def PeersMeetWrongFalsely : Prop := peersMeetRow.holds Try.pinned (OpenSpec.ofChange peersMeetWrong)

/-- 'baileylaw12.PeersBest': WHATEVER THE INPUT: true; the input reads as it did. -/
def peersBestSpec : ChangeSpec := { name := "peersBest", fn := fun _ => fun
  | [d1, d2] => { results := [.lit (.bool true)], args := [d1, d2] }
  | _ => none }
def peersBestRow : OpenClaim := { program := "ytnephacfnbcdeaa", sum := "ffa45dd9b8a09a503143472169b8b2d86ea9184d1a4bee03e2197a5333cd80fe", func := "bailey/baileylaw12.PeersBest", spec := "peersBest", unfollowed := true, recurses := true, apart := false }
def PeersBestSaid : Prop := peersBestRow.holds Try.pinned (OpenSpec.ofChange peersBestSpec)

/-- ITS FALSE NEIGHBOUR: 'it returns false'. Refute it at one input. -/
def peersBestWrong : ChangeSpec := { name := "peersBest", fn := fun _ => fun
  | [d1, d2] => { results := [.lit (.bool false)], args := [d1, d2] }
  | _ => none }
def PeersBestWrongFalsely : Prop := peersBestRow.holds Try.pinned (OpenSpec.ofChange peersBestWrong)

/-- 'baileylaw15.BallotCommits': WHATEVER THE INPUT: true; the input reads as it did. -/
def ballotCommitsSpec : ChangeSpec := { name := "ballotCommits", fn := fun _ => fun
  | [d1, d2, d3, d4, d5] => { results := [.lit (.bool true)], args := [d1, d2, d3, d4, d5] }
  | _ => none }
def ballotCommitsRow : OpenClaim := { program := "ytnephacfnbcdeaa", sum := "ffa45dd9b8a09a503143472169b8b2d86ea9184d1a4bee03e2197a5333cd80fe", func := "bailey/baileylaw15.BallotCommits", spec := "ballotCommits", unfollowed := true, recurses := true, apart := false }
def BallotCommitsSaid : Prop := ballotCommitsRow.holds Try.pinned (OpenSpec.ofChange ballotCommitsSpec)

/-- ITS FALSE NEIGHBOUR: 'it returns false'. Refute it at one input. -/
def ballotCommitsWrong : ChangeSpec := { name := "ballotCommits", fn := fun _ => fun
  | [d1, d2, d3, d4, d5] => { results := [.lit (.bool false)], args := [d1, d2, d3, d4, d5] }
  | _ => none }
def BallotCommitsWrongFalsely : Prop := ballotCommitsRow.holds Try.pinned (OpenSpec.ofChange ballotCommitsWrong)

/-- 'baileylaw12.PeersTells': WHATEVER THE INPUT: true; the input reads as it did. -/
def peersTellsSpec : ChangeSpec := { name := "peersTells", fn := fun _ => fun
  | [d1, d2, d3, d4] => { results := [.lit (.bool true)], args := [d1, d2, d3, d4] }
  | _ => none }
def peersTellsRow : OpenClaim := { program := "ytnephacfnbcdeaa", sum := "ffa45dd9b8a09a503143472169b8b2d86ea9184d1a4bee03e2197a5333cd80fe", func := "bailey/baileylaw12.PeersTells", spec := "peersTells", unfollowed := true, recurses := true, apart := false }
def PeersTellsSaid : Prop := peersTellsRow.holds Try.pinned (OpenSpec.ofChange peersTellsSpec)

/-- ITS FALSE NEIGHBOUR: 'it returns false'. Refute it at one input. -/
def peersTellsWrong : ChangeSpec := { name := "peersTells", fn := fun _ => fun
  | [d1, d2, d3, d4] => { results := [.lit (.bool false)], args := [d1, d2, d3, d4] }
  | _ => none }
def PeersTellsWrongFalsely : Prop := peersTellsRow.holds Try.pinned (OpenSpec.ofChange peersTellsWrong)

/- THE SECOND FORM. 'bulk': how many values and letters a reading holds, each counted each time it is reached (what is shared counts as often as it is met; a slice's spare places count too). A statement '..UptoSaid' is the law's where the arguments, and the package variables that the reading takes, are together of bulk at most 1048576: NARROWER than '..Said'. Prove '..Said' where nothing that the law and all that it calls make is longer than what came in: it says more and counts as full. Else prove '..UptoSaid'. A law counts once. -/
mutual
def uptoBulk {H : Type} : DataW H → Nat
  | .lit (.string bytes) => bytes.length + 1
  | .lit _ => 1
  | .nil => 1
  | .ptr d => uptoBulk d + 1
  | .slice elems spare => uptoBulkAll elems + uptoBulkAll spare + 1
  | .agg parts => uptoBulkAll parts + 1
  | .iface _ d => uptoBulk d + 1
  | .map entries => uptoBulkEntries entries + 1
  | .held _ => 1
def uptoBulkAll {H : Type} : List (DataW H) → Nat
  | [] => 0
  | d :: r => uptoBulk d + uptoBulkAll r
def uptoBulkEntries {H : Type} : List (Lit × DataW H) → Nat
  | [] => 0
  | x :: r => uptoBulkEntry x + uptoBulkEntries r
def uptoBulkEntry {H : Type} : Lit × DataW H → Nat
  | (.string bytes, d) => bytes.length + uptoBulk d + 1
  | (_, d) => uptoBulk d + 1
 end
def uptoSmall : (H : Type) → List (DataW H) → Bool := fun _ ds => decide (uptoBulkAll ds ≤ 1048576)
def OpenSpec.upto (s : _root_.Go.ChangeSpec) : _root_.Go.OpenSpec := { _root_.Go.OpenSpec.ofChange s with cond := some uptoSmall }

/-- 'baileylaw15.BallotFresh', WHERE WHAT IT READS IS OF BULK AT MOST 1048576: true; the input reads as it did. -/
def ballotFreshUptoRow : OpenClaim := { program := "ytnephacfnbcdeaa", sum := "ffa45dd9b8a09a503143472169b8b2d86ea9184d1a4bee03e2197a5333cd80fe", func := "bailey/baileylaw15.BallotFresh", spec := "ballotFresh", apart := false, narrowed := true }
def BallotFreshUptoSaid : Prop := ballotFreshUptoRow.holds Try.pinned (OpenSpec.upto ballotFreshSpec)

/-- 'baileylaw15.BallotApart', WHERE WHAT IT READS IS OF BULK AT MOST 1048576: true; the input reads as it did. -/
def ballotApartUptoRow : OpenClaim := { program := "ytnephacfnbcdeaa", sum := "ffa45dd9b8a09a503143472169b8b2d86ea9184d1a4bee03e2197a5333cd80fe", func := "bailey/baileylaw15.BallotApart", spec := "ballotApart", apart := false, narrowed := true }
def BallotApartUptoSaid : Prop := ballotApartUptoRow.holds Try.pinned (OpenSpec.upto ballotApartSpec)

/-- 'baileylaw15.BallotBack', WHERE WHAT IT READS IS OF BULK AT MOST 1048576: true; the input reads as it did. -/
def ballotBackUptoRow : OpenClaim := { program := "ytnephacfnbcdeaa", sum := "ffa45dd9b8a09a503143472169b8b2d86ea9184d1a4bee03e2197a5333cd80fe", func := "bailey/baileylaw15.BallotBack", spec := "ballotBack", apart := false, narrowed := true }
def BallotBackUptoSaid : Prop := ballotBackUptoRow.holds Try.pinned (OpenSpec.upto ballotBackSpec)

/-- 'baileylaw15.BallotRises', WHERE WHAT IT READS IS OF BULK AT MOST 1048576: true; the input reads as it did. -/
def ballotRisesUptoRow : OpenClaim := { program := "ytnephacfnbcdeaa", sum := "ffa45dd9b8a09a503143472169b8b2d86ea9184d1a4bee03e2197a5333cd80fe", func := "bailey/baileylaw15.BallotRises", spec := "ballotRises", unfollowed := true, recurses := true, apart := false, narrowed := true }
def BallotRisesUptoSaid : Prop := ballotRisesUptoRow.holds Try.pinned (OpenSpec.upto ballotRisesSpec)

/-- 'baileylaw12.PeersMatch', WHERE WHAT IT READS IS OF BULK AT MOST 1048576: true; the input reads as it did. -/
def peersMatchUptoRow : OpenClaim := { program := "ytnephacfnbcdeaa", sum := "ffa45dd9b8a09a503143472169b8b2d86ea9184d1a4bee03e2197a5333cd80fe", func := "bailey/baileylaw12.PeersMatch", spec := "peersMatch", unfollowed := true, recurses := true, apart := false, narrowed := true }
def PeersMatchUptoSaid : Prop := peersMatchUptoRow.holds Try.pinned (OpenSpec.upto peersMatchSpec)

/-- 'baileylaw12.PeersMeet', WHERE WHAT IT READS IS OF BULK AT MOST 1048576: true; the input reads as it did. -/
def peersMeetUptoRow : OpenClaim := { program := "ytnephacfnbcdeaa", sum := "ffa45dd9b8a09a503143472169b8b2d86ea9184d1a4bee03e2197a5333cd80fe", func := "bailey/baileylaw12.PeersMeet", spec := "peersMeet", unfollowed := true, recurses := true, apart := false, narrowed := true }
def PeersMeetUptoSaid : Prop := peersMeetUptoRow.holds Try.pinned (OpenSpec.upto peersMeetSpec)

/-- 'baileylaw12.PeersBest', WHERE WHAT IT READS IS OF BULK AT MOST 1048576: true; the input reads as it did. -/
def peersBestUptoRow : OpenClaim := { program := "ytnephacfnbcdeaa", sum := "ffa45dd9b8a09a503143472169b8b2d86ea9184d1a4bee03e2197a5333cd80fe", func := "bailey/baileylaw12.PeersBest", spec := "peersBest", unfollowed := true, recurses := true, apart := false, narrowed := true }
def PeersBestUptoSaid : Prop := peersBestUptoRow.holds Try.pinned (OpenSpec.upto peersBestSpec)

/-- 'baileylaw15.BallotCommits', WHERE WHAT IT READS IS OF BULK AT MOST 1048576: true; the input reads as it did. -/
def ballotCommitsUptoRow : OpenClaim := { program := "ytnephacfnbcdeaa", sum := "ffa45dd9b8a09a503143472169b8b2d86ea9184d1a4bee03e2197a5333cd80fe", func := "bailey/baileylaw15.BallotCommits", spec := "ballotCommits", unfollowed := true, recurses := true, apart := false, narrowed := true }
def BallotCommitsUptoSaid : Prop := ballotCommitsUptoRow.holds Try.pinned (OpenSpec.upto ballotCommitsSpec)

/-- 'baileylaw12.PeersTells', WHERE WHAT IT READS IS OF BULK AT MOST 1048576: true; the input reads as it did. -/
def peersTellsUptoRow : OpenClaim := { program := "ytnephacfnbcdeaa", sum := "ffa45dd9b8a09a503143472169b8b2d86ea9184d1a4bee03e2197a5333cd80fe", func := "bailey/baileylaw12.PeersTells", spec := "peersTells", unfollowed := true, recurses := true, apart := false, narrowed := true }
def PeersTellsUptoSaid : Prop := peersTellsUptoRow.holds Try.pinned (OpenSpec.upto peersTellsSpec)

end Rows
end Go.Proofs.Ytnephacfnbcdeaa
