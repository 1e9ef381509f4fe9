/-
  No cell of these rows narrows 'for every input' (looked for: loops, veiled, ifaces, maps, wideKeys, modest, calm, conditions, laid).
  DERIVED. THE GIVEN ROWS OF THIS SEAT. 5 by the template 'for every input the law returns true; each argument reads behind the call as it read before'; 0 by the template 'total and deterministic' (their statements: YtfngdplkcppabaaGreatTotals.lean).
  GIVEN WITH THE SEED: the statements are not yours to turn. If you find one false, say at which input.
  Laid BY PROGRAM, IN A SANDBOX (cutbox-rows.mjs): the forced cells as the released guide's own fill.sh prints them over the translation d8afc93ca2cd4b79… (all of the seat's roots in one cut). By AI agents, Wed Nov 11 2026. No macro, syntax, notation, axiom, sorry.
-/
import Derived.Test.YtfngdplkcppabaaGreatChecked
import GoSem.Claim
import GoSem.ClaimJoined
import GoSem.ClaimMapViews
import Derived.JoinedTies
import Derived.KernelRfl
namespace Go.Proofs.YtfngdplkcppabaaGreat
/- THE CELL 'sum', in the pinned program and in every row, IS THE sha256 OF THE DUMP (.gsa) THAT YtfngdplkcppabaaGreatProg.lean LOADS. Nothing in Lean hashes anything: it is a label: what it is worth is what the hold of that sum in a sandbox is worth. -/
noncomputable def Tryz.pinned : Pinned := { name := "ytfngdplkcppabaagreat", sum := "d8afc93ca2cd4b79532e0253317dc72ae7cf812887071d550983143e70845e7f", checked := Tryz.checked }
namespace Rows
def none {H : Type} : Left H := { results := [], args := [] }

/-- 'gossipkeep.Refutes': WHATEVER THE INPUT: true; the input reads as it did. -/
def refutesSpec : ChangeSpec := { name := "refutes", fn := fun _ => fun
  | [d1, d2, d3, d4] => { results := [.lit (.bool true)], args := [d1, d2, d3, d4] }
  | _ => none }
def refutesRow : OpenClaim := { program := "ytfngdplkcppabaagreat", sum := "d8afc93ca2cd4b79532e0253317dc72ae7cf812887071d550983143e70845e7f", func := "gossip/gossipkeep.Refutes", spec := "refutes", unfollowed := true, recurses := true, apart := false }
def RefutesSaid : Prop := refutesRow.holds Tryz.pinned (OpenSpec.ofChange refutesSpec)

/-- ITS FALSE NEIGHBOUR: 'it returns false'. Refute it at one input. -/
def refutesWrong : ChangeSpec := { name := "refutes", fn := fun _ => fun
  | [d1, d2, d3, d4] => { results := [.lit (.bool false)], args := [d1, d2, d3, d4] }
  | _ => none }
def RefutesWrongFalsely : Prop := refutesRow.holds Tryz.pinned (OpenSpec.ofChange refutesWrong)

/-- 'gossipkeep.Finds': WHATEVER THE INPUT: true; the input reads as it did. -/
def findsSpec : ChangeSpec := { name := "finds", fn := fun _ => fun
  | [d1, d2, d3, d4] => { results := [.lit (.bool true)], args := [d1, d2, d3, d4] }
  | _ => none }
def findsRow : OpenClaim := { program := "ytfngdplkcppabaagreat", sum := "d8afc93ca2cd4b79532e0253317dc72ae7cf812887071d550983143e70845e7f", func := "gossip/gossipkeep.Finds", spec := "finds", unfollowed := true, recurses := true, apart := false }
def FindsSaid : Prop := findsRow.holds Tryz.pinned (OpenSpec.ofChange findsSpec)

/-- ITS FALSE NEIGHBOUR: 'it returns false'. Refute it at one input. -/
def findsWrong : ChangeSpec := { name := "finds", fn := fun _ => fun
  | [d1, d2, d3, d4] => { results := [.lit (.bool false)], args := [d1, d2, d3, d4] }
  | _ => none }
def FindsWrongFalsely : Prop := findsRow.holds Tryz.pinned (OpenSpec.ofChange findsWrong)

/-- 'gossipkeep.Stays': WHATEVER THE INPUT: true; the input reads as it did. -/
def staysSpec : ChangeSpec := { name := "stays", fn := fun _ => fun
  | [d1, d2, d3, d4] => { results := [.lit (.bool true)], args := [d1, d2, d3, d4] }
  | _ => none }
def staysRow : OpenClaim := { program := "ytfngdplkcppabaagreat", sum := "d8afc93ca2cd4b79532e0253317dc72ae7cf812887071d550983143e70845e7f", func := "gossip/gossipkeep.Stays", spec := "stays", unfollowed := true, recurses := true, apart := false }
def StaysSaid : Prop := staysRow.holds Tryz.pinned (OpenSpec.ofChange staysSpec)

/-- ITS FALSE NEIGHBOUR: 'it returns false'. Refute it at one input. -/
def staysWrong : ChangeSpec := { name := "stays", fn := fun _ => fun
  | [d1, d2, d3, d4] => { results := [.lit (.bool false)], args := [d1, d2, d3, d4] }
  | _ => none }
def StaysWrongFalsely : Prop := staysRow.holds Tryz.pinned (OpenSpec.ofChange staysWrong)

/-- 'gossipkeep.Bounded': WHATEVER THE INPUT: true; the input reads as it did. -/
def boundedSpec : ChangeSpec := { name := "bounded", fn := fun _ => fun
  | [d1, d2, d3] => { results := [.lit (.bool true)], args := [d1, d2, d3] }
  | _ => none }
def boundedRow : OpenClaim := { program := "ytfngdplkcppabaagreat", sum := "d8afc93ca2cd4b79532e0253317dc72ae7cf812887071d550983143e70845e7f", func := "gossip/gossipkeep.Bounded", spec := "bounded", unfollowed := true, recurses := true, apart := false }
def BoundedSaid : Prop := boundedRow.holds Tryz.pinned (OpenSpec.ofChange boundedSpec)

/-- ITS FALSE NEIGHBOUR: 'it returns false'. Refute it at one input. -/
def boundedWrong : ChangeSpec := { name := "bounded", fn := fun _ => fun
  | [d1, d2, d3] => { results := [.lit (.bool false)], args := [d1, d2, d3] }
  | _ => none }
def BoundedWrongFalsely : Prop := boundedRow.holds Tryz.pinned (OpenSpec.ofChange boundedWrong)

/-- 'gossipkeep.Rising': WHATEVER THE INPUT: true; the input reads as it did. -/
def risingSpec : ChangeSpec := { name := "rising", fn := fun _ => fun
  | [d1, d2, d3] => { results := [.lit (.bool true)], args := [d1, d2, d3] }
  | _ => none }
def risingRow : OpenClaim := { program := "ytfngdplkcppabaagreat", sum := "d8afc93ca2cd4b79532e0253317dc72ae7cf812887071d550983143e70845e7f", func := "gossip/gossipkeep.Rising", spec := "rising", unfollowed := true, recurses := true, apart := false }
def RisingSaid : Prop := risingRow.holds Tryz.pinned (OpenSpec.ofChange risingSpec)

/-- ITS FALSE NEIGHBOUR: 'it returns false'. Refute it at one input. -/
def risingWrong : ChangeSpec := { name := "rising", fn := fun _ => fun
  | [d1, d2, d3] => { results := [.lit (.bool false)], args := [d1, d2, d3] }
  | _ => none }
def RisingWrongFalsely : Prop := risingRow.holds Tryz.pinned (OpenSpec.ofChange risingWrong)

/- THE SECOND FORM. 'bulk': how many values and letters a reading holds, each counted each time it is reached (what is shared counts as often as it is met; a slice's spare places count too). A statement '..UptoSaid' is the law's where the arguments, and the package variables that the reading takes, are together of bulk at most 1048576: NARROWER than '..Said'. Prove '..Said' where nothing that the law and all that it calls make is longer than what came in: it says more and counts as full. Else prove '..UptoSaid'. A law counts once. -/
mutual
def uptoBulk {H : Type} : DataW H → Nat
  | .lit (.string bytes) => bytes.length + 1
  | .lit _ => 1
  | .nil => 1
  | .ptr d => uptoBulk d + 1
  | .slice elems spare => uptoBulkAll elems + uptoBulkAll spare + 1
  | .agg parts => uptoBulkAll parts + 1
  | .iface _ d => uptoBulk d + 1
  | .map entries => uptoBulkEntries entries + 1
  | .held _ => 1
def uptoBulkAll {H : Type} : List (DataW H) → Nat
  | [] => 0
  | d :: r => uptoBulk d + uptoBulkAll r
def uptoBulkEntries {H : Type} : List (Lit × DataW H) → Nat
  | [] => 0
  | x :: r => uptoBulkEntry x + uptoBulkEntries r
def uptoBulkEntry {H : Type} : Lit × DataW H → Nat
  | (.string bytes, d) => bytes.length + uptoBulk d + 1
  | (_, d) => uptoBulk d + 1
 end
def uptoSmall : (H : Type) → List (DataW H) → Bool := fun _ ds => decide (uptoBulkAll ds ≤ 1048576)
def OpenSpec.upto (s : _root_.Go.ChangeSpec) : _root_.Go.OpenSpec := { _root_.Go.OpenSpec.ofChange s with cond := some uptoSmall }

/-- 'gossipkeep.Refutes', WHERE WHAT IT READS IS OF BULK AT MOST 1048576: true; the input reads as it did. -/
def refutesUptoRow : OpenClaim := { program := "ytfngdplkcppabaagreat", sum := "d8afc93ca2cd4b79532e0253317dc72ae7cf812887071d550983143e70845e7f", func := "gossip/gossipkeep.Refutes", spec := "refutes", unfollowed := true, recurses := true, apart := false, narrowed := true }
def RefutesUptoSaid : Prop := refutesUptoRow.holds Tryz.pinned (OpenSpec.upto refutesSpec)

/-- 'gossipkeep.Finds', WHERE WHAT IT READS IS OF BULK AT MOST 1048576: true; the input reads as it did. -/
def findsUptoRow : OpenClaim := { program := "ytfngdplkcppabaagreat", sum := "d8afc93ca2cd4b79532e0253317dc72ae7cf812887071d550983143e70845e7f", func := "gossip/gossipkeep.Finds", spec := "finds", unfollowed := true, recurses := true, apart := false, narrowed := true }
def FindsUptoSaid : Prop := findsUptoRow.holds Tryz.pinned (OpenSpec.upto findsSpec)

/-- 'gossipkeep.Stays', WHERE WHAT IT READS IS OF BULK AT MOST 1048576: true; the input reads as it did. -/
def staysUptoRow : OpenClaim := { program := "ytfngdplkcppabaagreat", sum := "d8afc93ca2cd4b79532e0253317dc72ae7cf812887071d550983143e70845e7f", func := "gossip/gossipkeep.Stays", spec := "stays", unfollowed := true, recurses := true, apart := false, narrowed := true }
def StaysUptoSaid : Prop := staysUptoRow.holds Tryz.pinned (OpenSpec.upto staysSpec)

/-- 'gossipkeep.Bounded', WHERE WHAT IT READS IS OF BULK AT MOST 1048576: true; the input reads as it did. -/
def boundedUptoRow : OpenClaim := { program := "ytfngdplkcppabaagreat", sum := "d8afc93ca2cd4b79532e0253317dc72ae7cf812887071d550983143e70845e7f", func := "gossip/gossipkeep.Bounded", spec := "bounded", unfollowed := true, recurses := true, apart := false, narrowed := true }
def BoundedUptoSaid : Prop := boundedUptoRow.holds Tryz.pinned (OpenSpec.upto boundedSpec)

/-- 'gossipkeep.Rising', WHERE WHAT IT READS IS OF BULK AT MOST 1048576: true; the input reads as it did. -/
def risingUptoRow : OpenClaim := { program := "ytfngdplkcppabaagreat", sum := "d8afc93ca2cd4b79532e0253317dc72ae7cf812887071d550983143e70845e7f", func := "gossip/gossipkeep.Rising", spec := "rising", unfollowed := true, recurses := true, apart := false, narrowed := true }
def RisingUptoSaid : Prop := risingUptoRow.holds Tryz.pinned (OpenSpec.upto risingSpec)

end Rows
end Go.Proofs.YtfngdplkcppabaaGreat
