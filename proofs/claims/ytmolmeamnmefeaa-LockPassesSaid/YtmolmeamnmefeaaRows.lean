/-
  No cell of these rows narrows 'for every input' (looked for: loops, veiled, ifaces, maps, wideKeys, modest, calm, conditions, laid).
  DERIVED. THE GIVEN ROWS OF THIS SEAT. 5 by the template 'for every input the law returns true; each argument reads behind the call as it read before'; 0 by the template 'total and deterministic' (their statements: YtmolmeamnmefeaaTotals.lean).
  GIVEN WITH THE SEED: the statements are not yours to turn. If you find one false, say at which input.
  Laid BY PROGRAM, IN A SANDBOX (cutbox-rows.mjs): the forced cells as the released guide's own fill.sh prints them over the translation 4a6b5e407af07d2a… (all of the seat's roots in one cut). By AI agents, Wed Nov 11 2026. No macro, syntax, notation, axiom, sorry.
-/
import Derived.Test.YtmolmeamnmefeaaChecked
import GoSem.Claim
import GoSem.ClaimJoined
import GoSem.ClaimMapViews
import Derived.JoinedTies
import Derived.KernelRfl
namespace Go.Proofs.Ytmolmeamnmefeaa
/- THE CELL 'sum', in the pinned program and in every row, IS THE sha256 OF THE DUMP (.gsa) THAT YtmolmeamnmefeaaProg.lean LOADS. Nothing in Lean hashes anything: it is a label: what it is worth is what the hold of that sum in a sandbox is worth. -/
noncomputable def Try.pinned : Pinned := { name := "ytmolmeamnmefeaa", sum := "4a6b5e407af07d2a218b00c551bad2b3e9306e74499d979c8a403cb87aa73b68", checked := Try.checked }
namespace Rows
def none {H : Type} : Left H := { results := [], args := [] }

/-- 'interlocklaw11.LockPasses': WHATEVER THE INPUT: true; the input reads as it did. -/
def lockPassesSpec : ChangeSpec := { name := "lockPasses", fn := fun _ => fun
  | [d1, d2, d3] => { results := [.lit (.bool true)], args := [d1, d2, d3] }
  | _ => none }
def lockPassesRow : OpenClaim := { program := "ytmolmeamnmefeaa", sum := "4a6b5e407af07d2a218b00c551bad2b3e9306e74499d979c8a403cb87aa73b68", func := "interlock/interlocklaw11.LockPasses", spec := "lockPasses", unfollowed := true, recurses := true, plainKeys := false, apart := false }
def LockPassesSaid : Prop := lockPassesRow.holds Try.pinned (OpenSpec.ofChange lockPassesSpec)

/-- ITS FALSE NEIGHBOUR: 'it returns false'. Refute it at one input. -/
def lockPassesWrong : ChangeSpec := { name := "lockPasses", fn := fun _ => fun
  | [d1, d2, d3] => { results := [.lit (.bool false)], args := [d1, d2, d3] }
  | _ => none }
def LockPassesWrongFalsely : Prop := lockPassesRow.holds Try.pinned (OpenSpec.ofChange lockPassesWrong)

/-- 'interlocklaw11.LockBeside': WHATEVER THE INPUT: true; the input reads as it did. -/
def lockBesideSpec : ChangeSpec := { name := "lockBeside", fn := fun _ => fun
  | [d1, d2] => { results := [.lit (.bool true)], args := [d1, d2] }
  | _ => none }
def lockBesideRow : OpenClaim := { program := "ytmolmeamnmefeaa", sum := "4a6b5e407af07d2a218b00c551bad2b3e9306e74499d979c8a403cb87aa73b68", func := "interlock/interlocklaw11.LockBeside", spec := "lockBeside", unfollowed := true, recurses := true, plainKeys := false, apart := false }
def LockBesideSaid : Prop := lockBesideRow.holds Try.pinned (OpenSpec.ofChange lockBesideSpec)

/-- ITS FALSE NEIGHBOUR: 'it returns false'. Refute it at one input. -/
def lockBesideWrong : ChangeSpec := { name := "lockBeside", fn := fun _ => fun
  | [d1, d2] => { results := [.lit (.bool false)], args := [d1, d2] }
  | _ => none }
def LockBesideWrongFalsely : Prop := lockBesideRow.holds Try.pinned (OpenSpec.ofChange lockBesideWrong)

/-- 'interlocklaw11.LockOrder': WHATEVER THE INPUT: true; the input reads as it did. -/
def lockOrderSpec : ChangeSpec := { name := "lockOrder", fn := fun _ => fun
  | [d1, d2] => { results := [.lit (.bool true)], args := [d1, d2] }
  | _ => none }
def lockOrderRow : OpenClaim := { program := "ytmolmeamnmefeaa", sum := "4a6b5e407af07d2a218b00c551bad2b3e9306e74499d979c8a403cb87aa73b68", func := "interlock/interlocklaw11.LockOrder", spec := "lockOrder", unfollowed := true, recurses := true, plainKeys := false, apart := false }
def LockOrderSaid : Prop := lockOrderRow.holds Try.pinned (OpenSpec.ofChange lockOrderSpec)

/-- ITS FALSE NEIGHBOUR: 'it returns false'. Refute it at one input. -/
def lockOrderWrong : ChangeSpec := { name := "lockOrder", fn := fun _ => fun
  | [d1, d2] => { results := [.lit (.bool false)], args := [d1, d2] }
  | _ => none }
def LockOrderWrongFalsely : Prop := lockOrderRow.holds Try.pinned (OpenSpec.ofChange lockOrderWrong)

/-- 'interlocklaw11.LockEnds': WHATEVER THE INPUT: true; the input reads as it did. -/
def lockEndsSpec : ChangeSpec := { name := "lockEnds", fn := fun _ => fun
  | [d1, d2, d3, d4] => { results := [.lit (.bool true)], args := [d1, d2, d3, d4] }
  | _ => none }
def lockEndsRow : OpenClaim := { program := "ytmolmeamnmefeaa", sum := "4a6b5e407af07d2a218b00c551bad2b3e9306e74499d979c8a403cb87aa73b68", func := "interlock/interlocklaw11.LockEnds", spec := "lockEnds", unfollowed := true, recurses := true, plainKeys := false, apart := false }
def LockEndsSaid : Prop := lockEndsRow.holds Try.pinned (OpenSpec.ofChange lockEndsSpec)

/-- ITS FALSE NEIGHBOUR: 'it returns false'. Refute it at one input. -/
def lockEndsWrong : ChangeSpec := { name := "lockEnds", fn := fun _ => fun
  | [d1, d2, d3, d4] => { results := [.lit (.bool false)], args := [d1, d2, d3, d4] }
  | _ => none }
def LockEndsWrongFalsely : Prop := lockEndsRow.holds Try.pinned (OpenSpec.ofChange lockEndsWrong)

/-- 'interlocklaw11.LockAgain': WHATEVER THE INPUT: true; the input reads as it did. -/
def lockAgainSpec : ChangeSpec := { name := "lockAgain", fn := fun _ => fun
  | [d1, d2] => { results := [.lit (.bool true)], args := [d1, d2] }
  | _ => none }
def lockAgainRow : OpenClaim := { program := "ytmolmeamnmefeaa", sum := "4a6b5e407af07d2a218b00c551bad2b3e9306e74499d979c8a403cb87aa73b68", func := "interlock/interlocklaw11.LockAgain", spec := "lockAgain", unfollowed := true, recurses := true, plainKeys := false, apart := false }
def LockAgainSaid : Prop := lockAgainRow.holds Try.pinned (OpenSpec.ofChange lockAgainSpec)

/-- ITS FALSE NEIGHBOUR: 'it returns false'. Refute it at one input. -/
def lockAgainWrong : ChangeSpec := { name := "lockAgain", fn := fun _ => fun
  | [d1, d2] => { results := [.lit (.bool false)], args := [d1, d2] }
  | _ => none }
def LockAgainWrongFalsely : Prop := lockAgainRow.holds Try.pinned (OpenSpec.ofChange lockAgainWrong)

/- THE SECOND FORM. 'bulk': how many values and letters a reading holds, each counted each time it is reached (what is shared counts as often as it is met; a slice's spare places count too). A statement '..UptoSaid' is the law's where the arguments, and the package variables that the reading takes, are together of bulk at most 1048576: NARROWER than '..Said'. Prove '..Said' where nothing that the law and all that it calls make is longer than what came in: it says more and counts as full. Else prove '..UptoSaid'. A law counts once. -/
mutual
def uptoBulk {H : Type} : DataW H → Nat
  | .lit (.string bytes) => bytes.length + 1
  | .lit _ => 1
  | .nil => 1
  | .ptr d => uptoBulk d + 1
  | .slice elems spare => uptoBulkAll elems + uptoBulkAll spare + 1
  | .agg parts => uptoBulkAll parts + 1
  | .iface _ d => uptoBulk d + 1
  | .map entries => uptoBulkEntries entries + 1
  | .held _ => 1
def uptoBulkAll {H : Type} : List (DataW H) → Nat
  | [] => 0
  | d :: r => uptoBulk d + uptoBulkAll r
def uptoBulkEntries {H : Type} : List (Lit × DataW H) → Nat
  | [] => 0
  | x :: r => uptoBulkEntry x + uptoBulkEntries r
def uptoBulkEntry {H : Type} : Lit × DataW H → Nat
  | (.string bytes, d) => bytes.length + uptoBulk d + 1
  | (_, d) => uptoBulk d + 1
 end
def uptoSmall : (H : Type) → List (DataW H) → Bool := fun _ ds => decide (uptoBulkAll ds ≤ 1048576)
def OpenSpec.upto (s : _root_.Go.ChangeSpec) : _root_.Go.OpenSpec := { _root_.Go.OpenSpec.ofChange s with cond := some uptoSmall }

/-- 'interlocklaw11.LockPasses', WHERE WHAT IT READS IS OF BULK AT MOST 1048576: true; the input reads as it did. -/
def lockPassesUptoRow : OpenClaim := { program := "ytmolmeamnmefeaa", sum := "4a6b5e407af07d2a218b00c551bad2b3e9306e74499d979c8a403cb87aa73b68", func := "interlock/interlocklaw11.LockPasses", spec := "lockPasses", unfollowed := true, recurses := true, plainKeys := false, apart := false, narrowed := true }
def LockPassesUptoSaid : Prop := lockPassesUptoRow.holds Try.pinned (OpenSpec.upto lockPassesSpec)

/-- 'interlocklaw11.LockBeside', WHERE WHAT IT READS IS OF BULK AT MOST 1048576: true; the input reads as it did. -/
def lockBesideUptoRow : OpenClaim := { program := "ytmolmeamnmefeaa", sum := "4a6b5e407af07d2a218b00c551bad2b3e9306e74499d979c8a403cb87aa73b68", func := "interlock/interlocklaw11.LockBeside", spec := "lockBeside", unfollowed := true, recurses := true, plainKeys := false, apart := false, narrowed := true }
def LockBesideUptoSaid : Prop := lockBesideUptoRow.holds Try.pinned (OpenSpec.upto lockBesideSpec)

/-- 'interlocklaw11.LockOrder', WHERE WHAT IT READS IS OF BULK AT MOST 1048576: true; the input reads as it did. -/
def lockOrderUptoRow : OpenClaim := { program := "ytmolmeamnmefeaa", sum := "4a6b5e407af07d2a218b00c551bad2b3e9306e74499d979c8a403cb87aa73b68", func := "interlock/interlocklaw11.LockOrder", spec := "lockOrder", unfollowed := true, recurses := true, plainKeys := false, apart := false, narrowed := true }
def LockOrderUptoSaid : Prop := lockOrderUptoRow.holds Try.pinned (OpenSpec.upto lockOrderSpec)

/-- 'interlocklaw11.LockEnds', WHERE WHAT IT READS IS OF BULK AT MOST 1048576: true; the input reads as it did. -/
def lockEndsUptoRow : OpenClaim := { program := "ytmolmeamnmefeaa", sum := "4a6b5e407af07d2a218b00c551bad2b3e9306e74499d979c8a403cb87aa73b68", func := "interlock/interlocklaw11.LockEnds", spec := "lockEnds", unfollowed := true, recurses := true, plainKeys := false, apart := false, narrowed := true }
def LockEndsUptoSaid : Prop := lockEndsUptoRow.holds Try.pinned (OpenSpec.upto lockEndsSpec)

/-- 'interlocklaw11.LockAgain', WHERE WHAT IT READS IS OF BULK AT MOST 1048576: true; the input reads as it did. -/
def lockAgainUptoRow : OpenClaim := { program := "ytmolmeamnmefeaa", sum := "4a6b5e407af07d2a218b00c551bad2b3e9306e74499d979c8a403cb87aa73b68", func := "interlock/interlocklaw11.LockAgain", spec := "lockAgain", unfollowed := true, recurses := true, plainKeys := false, apart := false, narrowed := true }
def LockAgainUptoSaid : Prop := lockAgainUptoRow.holds Try.pinned (OpenSpec.upto lockAgainSpec)

end Rows
end Go.Proofs.Ytmolmeamnmefeaa
