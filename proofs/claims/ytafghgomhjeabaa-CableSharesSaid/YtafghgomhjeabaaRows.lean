/-
  No cell of these rows narrows 'for every input' (looked for: loops, veiled, ifaces, maps, wideKeys, modest, calm, conditions, laid).
  DERIVED. THE GIVEN ROWS OF THIS SEAT. 3 by the template 'for every input the law returns true; each argument reads behind the call as it read before'; 0 by the template 'total and deterministic' (their statements: YtafghgomhjeabaaTotals.lean).
  GIVEN WITH THE SEED: the statements are not yours to turn. If you find one false, say at which input.
  Laid BY PROGRAM, IN A SANDBOX (cutbox-rows.mjs): the forced cells as the released guide's own fill.sh prints them over the translation ed37cfb41e2c14e7… (all of the seat's roots in one cut). By AI agents, Wed Nov 11 2026. No macro, syntax, notation, axiom, sorry.
-/
import Derived.Test.YtafghgomhjeabaaChecked
import GoSem.Claim
import GoSem.ClaimJoined
import GoSem.ClaimMapViews
import Derived.JoinedTies
import Derived.KernelRfl
namespace Go.Proofs.Ytafghgomhjeabaa
/- THE CELL 'sum', in the pinned program and in every row, IS THE sha256 OF THE DUMP (.gsa) THAT YtafghgomhjeabaaProg.lean LOADS. Nothing in Lean hashes anything: it is a label: what it is worth is what the hold of that sum in a sandbox is worth. -/
noncomputable def Try.pinned : Pinned := { name := "ytafghgomhjeabaa", sum := "ed37cfb41e2c14e7d89dc90eedcd7ec2434c1d26050cf5f4cc7087833128a1b3", checked := Try.checked }
namespace Rows
def none {H : Type} : Left H := { results := [], args := [] }

/-- 'isobathlaw04.CableLater': WHATEVER THE INPUT: true; the input reads as it did. -/
def cableLaterSpec : ChangeSpec := { name := "cableLater", fn := fun _ => fun
  | [d1, d2, d3, d4, d5, d6] => { results := [.lit (.bool true)], args := [d1, d2, d3, d4, d5, d6] }
  | _ => none }
def cableLaterRow : OpenClaim := { program := "ytafghgomhjeabaa", sum := "ed37cfb41e2c14e7d89dc90eedcd7ec2434c1d26050cf5f4cc7087833128a1b3", func := "isobath/isobathlaw04.CableLater", spec := "cableLater", unfollowed := true, recurses := true, apart := false }
def CableLaterSaid : Prop := cableLaterRow.holds Try.pinned (OpenSpec.ofChange cableLaterSpec)

/-- ITS FALSE NEIGHBOUR: 'it returns false'. Refute it at one input. -/
def cableLaterWrong : ChangeSpec := { name := "cableLater", fn := fun _ => fun
  | [d1, d2, d3, d4, d5, d6] => { results := [.lit (.bool false)], args := [d1, d2, d3, d4, d5, d6] }
  | _ => none }
def CableLaterWrongFalsely : Prop := cableLaterRow.holds Try.pinned (OpenSpec.ofChange cableLaterWrong)

/-- 'isobathlaw04.CableShares': WHATEVER THE INPUT: true; the input reads as it did. -/
def cableSharesSpec : ChangeSpec := { name := "cableShares", fn := fun _ => fun
  | [d1, d2, d3, d4] => { results := [.lit (.bool true)], args := [d1, d2, d3, d4] }
  | _ => none }
def cableSharesRow : OpenClaim := { program := "ytafghgomhjeabaa", sum := "ed37cfb41e2c14e7d89dc90eedcd7ec2434c1d26050cf5f4cc7087833128a1b3", func := "isobath/isobathlaw04.CableShares", spec := "cableShares", unfollowed := true, recurses := true, apart := false }
def CableSharesSaid : Prop := cableSharesRow.holds Try.pinned (OpenSpec.ofChange cableSharesSpec)

/-- ITS FALSE NEIGHBOUR: 'it returns false'. Refute it at one input. -/
def cableSharesWrong : ChangeSpec := { name := "cableShares", fn := fun _ => fun
  | [d1, d2, d3, d4] => { results := [.lit (.bool false)], args := [d1, d2, d3, d4] }
  | _ => none }
def CableSharesWrongFalsely : Prop := cableSharesRow.holds Try.pinned (OpenSpec.ofChange cableSharesWrong)

/-- 'isobathlaw04.CableGranted': WHATEVER THE INPUT: true; the input reads as it did. -/
def cableGrantedSpec : ChangeSpec := { name := "cableGranted", fn := fun _ => fun
  | [d1, d2, d3] => { results := [.lit (.bool true)], args := [d1, d2, d3] }
  | _ => none }
def cableGrantedRow : OpenClaim := { program := "ytafghgomhjeabaa", sum := "ed37cfb41e2c14e7d89dc90eedcd7ec2434c1d26050cf5f4cc7087833128a1b3", func := "isobath/isobathlaw04.CableGranted", spec := "cableGranted", unfollowed := true, recurses := true, apart := false }
def CableGrantedSaid : Prop := cableGrantedRow.holds Try.pinned (OpenSpec.ofChange cableGrantedSpec)

/-- ITS FALSE NEIGHBOUR: 'it returns false'. Refute it at one input. -/
def cableGrantedWrong : ChangeSpec := { name := "cableGranted", fn := fun _ => fun
  | [d1, d2, d3] => { results := [.lit (.bool false)], args := [d1, d2, d3] }
  | _ => none }
def CableGrantedWrongFalsely : Prop := cableGrantedRow.holds Try.pinned (OpenSpec.ofChange cableGrantedWrong)

/- THE SECOND FORM. 'bulk': how many values and letters a reading holds, each counted each time it is reached (what is shared counts as often as it is met; a slice's spare places count too). A statement '..UptoSaid' is the law's where the arguments, and the package variables that the reading takes, are together of bulk at most 1048576: NARROWER than '..Said'. Prove '..Said' where nothing that the law and all that it calls make is longer than what came in: it says more and counts as full. Else prove '..UptoSaid'. A law counts once. -/
mutual
def uptoBulk {H : Type} : DataW H → Nat
  | .lit (.string bytes) => bytes.length + 1
  | .lit _ => 1
  | .nil => 1
  | .ptr d => uptoBulk d + 1
  | .slice elems spare => uptoBulkAll elems + uptoBulkAll spare + 1
  | .agg parts => uptoBulkAll parts + 1
  | .iface _ d => uptoBulk d + 1
  | .map entries => uptoBulkEntries entries + 1
  | .held _ => 1
def uptoBulkAll {H : Type} : List (DataW H) → Nat
  | [] => 0
  | d :: r => uptoBulk d + uptoBulkAll r
def uptoBulkEntries {H : Type} : List (Lit × DataW H) → Nat
  | [] => 0
  | x :: r => uptoBulkEntry x + uptoBulkEntries r
def uptoBulkEntry {H : Type} : Lit × DataW H → Nat
  | (.string bytes, d) => bytes.length + uptoBulk d + 1
  | (_, d) => uptoBulk d + 1
 end
def uptoSmall : (H : Type) → List (DataW H) → Bool := fun _ ds => decide (uptoBulkAll ds ≤ 1048576)
def OpenSpec.upto (s : _root_.Go.ChangeSpec) : _root_.Go.OpenSpec := { _root_.Go.OpenSpec.ofChange s with cond := some uptoSmall }

/-- 'isobathlaw04.CableLater', WHERE WHAT IT READS IS OF BULK AT MOST 1048576: true; the input reads as it did. -/
def cableLaterUptoRow : OpenClaim := { program := "ytafghgomhjeabaa", sum := "ed37cfb41e2c14e7d89dc90eedcd7ec2434c1d26050cf5f4cc7087833128a1b3", func := "isobath/isobathlaw04.CableLater", spec := "cableLater", unfollowed := true, recurses := true, apart := false, narrowed := true }
def CableLaterUptoSaid : Prop := cableLaterUptoRow.holds Try.pinned (OpenSpec.upto cableLaterSpec)

/-- 'isobathlaw04.CableShares', WHERE WHAT IT READS IS OF BULK AT MOST 1048576: true; the input reads as it did. -/
def cableSharesUptoRow : OpenClaim := { program := "ytafghgomhjeabaa", sum := "ed37cfb41e2c14e7d89dc90eedcd7ec2434c1d26050cf5f4cc7087833128a1b3", func := "isobath/isobathlaw04.CableShares", spec := "cableShares", unfollowed := true, recurses := true, apart := false, narrowed := true }
def CableSharesUptoSaid : Prop := cableSharesUptoRow.holds Try.pinned (OpenSpec.upto cableSharesSpec)

/-- 'isobathlaw04.CableGranted', WHERE WHAT IT READS IS OF BULK AT MOST 1048576: true; the input reads as it did. -/
def cableGrantedUptoRow : OpenClaim := { program := "ytafghgomhjeabaa", sum := "ed37cfb41e2c14e7d89dc90eedcd7ec2434c1d26050cf5f4cc7087833128a1b3", func := "isobath/isobathlaw04.CableGranted", spec := "cableGranted", unfollowed := true, recurses := true, apart := false, narrowed := true }
def CableGrantedUptoSaid : Prop := cableGrantedUptoRow.holds Try.pinned (OpenSpec.upto cableGrantedSpec)

end Rows
end Go.Proofs.Ytafghgomhjeabaa
