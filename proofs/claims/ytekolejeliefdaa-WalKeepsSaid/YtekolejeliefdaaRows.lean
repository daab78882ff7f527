/-
  No cell of these rows narrows 'for every input' (looked for: loops, veiled, ifaces, maps, wideKeys, modest, calm, conditions, laid).
  DERIVED. THE GIVEN ROWS OF THIS SEAT. 9 by the template 'for every input the law returns true; each argument reads behind the call as it read before'; 0 by the template 'total and deterministic' (their statements: YtekolejeliefdaaTotals.lean).
  GIVEN WITH THE SEED: the statements are not yours to turn. If you find one false, say at which input.
  Laid BY PROGRAM, IN A SANDBOX (cutbox-rows.mjs): the forced cells as the released guide's own fill.sh prints them over the translation 014d374a261d5d25… (all of the seat's roots in one cut). By AI agents, Wed Nov 11 2026. No macro, syntax, notation, axiom, sorry.
-/
import Derived.Test.YtekolejeliefdaaChecked
import GoSem.Claim
import GoSem.ClaimJoined
import GoSem.ClaimMapViews
import Derived.JoinedTies
import Derived.KernelRfl
namespace Go.Proofs.Ytekolejeliefdaa
/- THE CELL 'sum', in the pinned program and in every row, IS THE sha256 OF THE DUMP (.gsa) THAT YtekolejeliefdaaProg.lean LOADS. Nothing in Lean hashes anything: it is a label: what it is worth is what the hold of that sum in a sandbox is worth. -/
noncomputable def Try.pinned : Pinned := { name := "ytekolejeliefdaa", sum := "014d374a261d5d256a19188c9ad743175f8438c1bd2f68af39e40ace06c95a9a", checked := Try.checked }
namespace Rows
def none {H : Type} : Left H := { results := [], args := [] }

/-- 'augurlaw3.DiskBounds': WHATEVER THE INPUT: true; the input reads as it did. -/
def diskBoundsSpec : ChangeSpec := { name := "diskBounds", fn := fun _ => fun
  | [d1, d2] => { results := [.lit (.bool true)], args := [d1, d2] }
  | _ => none }
def diskBoundsRow : OpenClaim := { program := "ytekolejeliefdaa", sum := "014d374a261d5d256a19188c9ad743175f8438c1bd2f68af39e40ace06c95a9a", func := "augur/augurlaw3.DiskBounds", spec := "diskBounds", unfollowed := true, recurses := true, apart := false }
def DiskBoundsSaid : Prop := diskBoundsRow.holds Try.pinned (OpenSpec.ofChange diskBoundsSpec)

/-- ITS FALSE NEIGHBOUR: 'it returns false'. Refute it at one input. -/
def diskBoundsWrong : ChangeSpec := { name := "diskBounds", fn := fun _ => fun
  | [d1, d2] => { results := [.lit (.bool false)], args := [d1, d2] }
  | _ => none }
def DiskBoundsWrongFalsely : Prop := diskBoundsRow.holds Try.pinned (OpenSpec.ofChange diskBoundsWrong)

/-- 'augurlaw3.DiskCopies': WHATEVER THE INPUT: true; the input reads as it did. -/
def diskCopiesSpec : ChangeSpec := { name := "diskCopies", fn := fun _ => fun
  | [d1, d2] => { results := [.lit (.bool true)], args := [d1, d2] }
  | _ => none }
def diskCopiesRow : OpenClaim := { program := "ytekolejeliefdaa", sum := "014d374a261d5d256a19188c9ad743175f8438c1bd2f68af39e40ace06c95a9a", func := "augur/augurlaw3.DiskCopies", spec := "diskCopies", unfollowed := true, recurses := true, apart := false }
def DiskCopiesSaid : Prop := diskCopiesRow.holds Try.pinned (OpenSpec.ofChange diskCopiesSpec)

/-- ITS FALSE NEIGHBOUR: 'it returns false'. Refute it at one input. -/
def diskCopiesWrong : ChangeSpec := { name := "diskCopies", fn := fun _ => fun
  | [d1, d2] => { results := [.lit (.bool false)], args := [d1, d2] }
  | _ => none }
def DiskCopiesWrongFalsely : Prop := diskCopiesRow.holds Try.pinned (OpenSpec.ofChange diskCopiesWrong)

/-- 'augurlaw9.NamesResolve': WHATEVER THE INPUT: true; the input reads as it did. -/
def namesResolveSpec : ChangeSpec := { name := "namesResolve", fn := fun _ => fun
  | [d1, d2] => { results := [.lit (.bool true)], args := [d1, d2] }
  | _ => none }
def namesResolveRow : OpenClaim := { program := "ytekolejeliefdaa", sum := "014d374a261d5d256a19188c9ad743175f8438c1bd2f68af39e40ace06c95a9a", func := "augur/augurlaw9.NamesResolve", spec := "namesResolve", unfollowed := true, recurses := true, apart := false }
def NamesResolveSaid : Prop := namesResolveRow.holds Try.pinned (OpenSpec.ofChange namesResolveSpec)

/-- ITS FALSE NEIGHBOUR: 'it returns false'. Refute it at one input. -/
def namesResolveWrong : ChangeSpec := { name := "namesResolve", fn := fun _ => fun
  | [d1, d2] => { results := [.lit (.bool false)], args := [d1, d2] }
  | _ => none }
def NamesResolveWrongFalsely : Prop := namesResolveRow.holds Try.pinned (OpenSpec.ofChange namesResolveWrong)

/-- 'augurlaw9.NamesKinds': WHATEVER THE INPUT: true; the input reads as it did. -/
def namesKindsSpec : ChangeSpec := { name := "namesKinds", fn := fun _ => fun
  | [d1, d2, d3] => { results := [.lit (.bool true)], args := [d1, d2, d3] }
  | _ => none }
def namesKindsRow : OpenClaim := { program := "ytekolejeliefdaa", sum := "014d374a261d5d256a19188c9ad743175f8438c1bd2f68af39e40ace06c95a9a", func := "augur/augurlaw9.NamesKinds", spec := "namesKinds", unfollowed := true, recurses := true, apart := false }
def NamesKindsSaid : Prop := namesKindsRow.holds Try.pinned (OpenSpec.ofChange namesKindsSpec)

/-- ITS FALSE NEIGHBOUR: 'it returns false'. Refute it at one input. -/
def namesKindsWrong : ChangeSpec := { name := "namesKinds", fn := fun _ => fun
  | [d1, d2, d3] => { results := [.lit (.bool false)], args := [d1, d2, d3] }
  | _ => none }
def NamesKindsWrongFalsely : Prop := namesKindsRow.holds Try.pinned (OpenSpec.ofChange namesKindsWrong)

/-- 'augurlaw9.NamesAgain': WHATEVER THE INPUT: true; the input reads as it did. -/
def namesAgainSpec : ChangeSpec := { name := "namesAgain", fn := fun _ => fun
  | [d] => { results := [.lit (.bool true)], args := [d] }
  | _ => none }
def namesAgainRow : OpenClaim := { program := "ytekolejeliefdaa", sum := "014d374a261d5d256a19188c9ad743175f8438c1bd2f68af39e40ace06c95a9a", func := "augur/augurlaw9.NamesAgain", spec := "namesAgain", unfollowed := true, recurses := true, apart := false }
def NamesAgainSaid : Prop := namesAgainRow.holds Try.pinned (OpenSpec.ofChange namesAgainSpec)

/-- ITS FALSE NEIGHBOUR: 'it returns false'. Refute it at one input. -/
def namesAgainWrong : ChangeSpec := { name := "namesAgain", fn := fun _ => fun
  | [d] => { results := [.lit (.bool false)], args := [d] }
  | _ => none }
def NamesAgainWrongFalsely : Prop := namesAgainRow.holds Try.pinned (OpenSpec.ofChange namesAgainWrong)

/-- 'augurlaw4.WalForeign': WHATEVER THE INPUT: true; the input reads as it did. -/
def walForeignSpec : ChangeSpec := { name := "walForeign", fn := fun _ => fun
  | [d1, d2, d3] => { results := [.lit (.bool true)], args := [d1, d2, d3] }
  | _ => none }
def walForeignRow : OpenClaim := { program := "ytekolejeliefdaa", sum := "014d374a261d5d256a19188c9ad743175f8438c1bd2f68af39e40ace06c95a9a", func := "augur/augurlaw4.WalForeign", spec := "walForeign", unfollowed := true, recurses := true, apart := false }
def WalForeignSaid : Prop := walForeignRow.holds Try.pinned (OpenSpec.ofChange walForeignSpec)

/-- ITS FALSE NEIGHBOUR: 'it returns false'. Refute it at one input. -/
def walForeignWrong : ChangeSpec := { name := "walForeign", fn := fun _ => fun
  | [d1, d2, d3] => { results := [.lit (.bool false)], args := [d1, d2, d3] }
  | _ => none }
def WalForeignWrongFalsely : Prop := walForeignRow.holds Try.pinned (OpenSpec.ofChange walForeignWrong)

/-- 'augurlaw4.WalResets': WHATEVER THE INPUT: true; the input reads as it did. -/
def walResetsSpec : ChangeSpec := { name := "walResets", fn := fun _ => fun
  | [d1, d2] => { results := [.lit (.bool true)], args := [d1, d2] }
  | _ => none }
def walResetsRow : OpenClaim := { program := "ytekolejeliefdaa", sum := "014d374a261d5d256a19188c9ad743175f8438c1bd2f68af39e40ace06c95a9a", func := "augur/augurlaw4.WalResets", spec := "walResets", unfollowed := true, recurses := true, apart := false }
def WalResetsSaid : Prop := walResetsRow.holds Try.pinned (OpenSpec.ofChange walResetsSpec)

/-- ITS FALSE NEIGHBOUR: 'it returns false'. Refute it at one input. -/
def walResetsWrong : ChangeSpec := { name := "walResets", fn := fun _ => fun
  | [d1, d2] => { results := [.lit (.bool false)], args := [d1, d2] }
  | _ => none }
def WalResetsWrongFalsely : Prop := walResetsRow.holds Try.pinned (OpenSpec.ofChange walResetsWrong)

/-- 'augurlaw4.WalKeeps': WHATEVER THE INPUT: true; the input reads as it did. -/
def walKeepsSpec : ChangeSpec := { name := "walKeeps", fn := fun _ => fun
  | [d1, d2] => { results := [.lit (.bool true)], args := [d1, d2] }
  | _ => none }
def walKeepsRow : OpenClaim := { program := "ytekolejeliefdaa", sum := "014d374a261d5d256a19188c9ad743175f8438c1bd2f68af39e40ace06c95a9a", func := "augur/augurlaw4.WalKeeps", spec := "walKeeps", unfollowed := true, recurses := true, apart := false }
def WalKeepsSaid : Prop := walKeepsRow.holds Try.pinned (OpenSpec.ofChange walKeepsSpec)

/-- ITS FALSE NEIGHBOUR: 'it returns false'. Refute it at one input. -/
def walKeepsWrong : ChangeSpec := { name := "walKeeps", fn := fun _ => fun
  | [d1, d2] => { results := [.lit (.bool false)], args := [d1, d2] }
  | _ => none }
def WalKeepsWrongFalsely : Prop := walKeepsRow.holds Try.pinned (OpenSpec.ofChange walKeepsWrong)

/-- 'augurlaw4.WalTwice': WHATEVER THE INPUT: true; the input reads as it did. -/
def walTwiceSpec : ChangeSpec := { name := "walTwice", fn := fun _ => fun
  | [d1, d2, d3, d4, d5, d6] => { results := [.lit (.bool true)], args := [d1, d2, d3, d4, d5, d6] }
  | _ => none }
def walTwiceRow : OpenClaim := { program := "ytekolejeliefdaa", sum := "014d374a261d5d256a19188c9ad743175f8438c1bd2f68af39e40ace06c95a9a", func := "augur/augurlaw4.WalTwice", spec := "walTwice", unfollowed := true, recurses := true, apart := false }
def WalTwiceSaid : Prop := walTwiceRow.holds Try.pinned (OpenSpec.ofChange walTwiceSpec)

/-- ITS FALSE NEIGHBOUR: 'it returns false'. Refute it at one input. -/
def walTwiceWrong : ChangeSpec := { name := "walTwice", fn := fun _ => fun
  | [d1, d2, d3, d4, d5, d6] => { results := [.lit (.bool false)], args := [d1, d2, d3, d4, d5, d6] }
  | _ => none }
def WalTwiceWrongFalsely : Prop := walTwiceRow.holds Try.pinned (OpenSpec.ofChange walTwiceWrong)

/- THE SECOND FORM. 'bulk': how many values and letters a reading holds, each counted each time it is reached (what is shared counts as often as it is met; a slice's spare places count too). A statement '..UptoSaid' is the law's where the arguments, and the package variables that the reading takes, are together of bulk at most 1048576: NARROWER than '..Said'. Prove '..Said' where nothing that the law and all that it calls make is longer than what came in: it says more and counts as full. Else prove '..UptoSaid'. A law counts once. -/
mutual
def uptoBulk {H : Type} : DataW H → Nat
  | .lit (.string bytes) => bytes.length + 1
  | .lit _ => 1
  | .nil => 1
  | .ptr d => uptoBulk d + 1
  | .slice elems spare => uptoBulkAll elems + uptoBulkAll spare + 1
  | .agg parts => uptoBulkAll parts + 1
  | .iface _ d => uptoBulk d + 1
  | .map entries => uptoBulkEntries entries + 1
  | .held _ => 1
def uptoBulkAll {H : Type} : List (DataW H) → Nat
  | [] => 0
  | d :: r => uptoBulk d + uptoBulkAll r
def uptoBulkEntries {H : Type} : List (Lit × DataW H) → Nat
  | [] => 0
  | x :: r => uptoBulkEntry x + uptoBulkEntries r
def uptoBulkEntry {H : Type} : Lit × DataW H → Nat
  | (.string bytes, d) => bytes.length + uptoBulk d + 1
  | (_, d) => uptoBulk d + 1
 end
def uptoSmall : (H : Type) → List (DataW H) → Bool := fun _ ds => decide (uptoBulkAll ds ≤ 1048576)
def OpenSpec.upto (s : _root_.Go.ChangeSpec) : _root_.Go.OpenSpec := { _root_.Go.OpenSpec.ofChange s with cond := some uptoSmall }

/-- 'augurlaw3.DiskBounds', WHERE WHAT IT READS IS OF BULK AT MOST 1048576: true; the input reads as it did. -/
def diskBoundsUptoRow : OpenClaim := { program := "ytekolejeliefdaa", sum := "014d374a261d5d256a19188c9ad743175f8438c1bd2f68af39e40ace06c95a9a", func := "augur/augurlaw3.DiskBounds", spec := "diskBounds", unfollowed := true, recurses := true, apart := false, narrowed := true }
def DiskBoundsUptoSaid : Prop := diskBoundsUptoRow.holds Try.pinned (OpenSpec.upto diskBoundsSpec)

/-- 'augurlaw3.DiskCopies', WHERE WHAT IT READS IS OF BULK AT MOST 1048576: true; the input reads as it did. -/
def diskCopiesUptoRow : OpenClaim := { program := "ytekolejeliefdaa", sum := "014d374a261d5d256a19188c9ad743175f8438c1bd2f68af39e40ace06c95a9a", func := "augur/augurlaw3.DiskCopies", spec := "diskCopies", unfollowed := true, recurses := true, apart := false, narrowed := true }
def DiskCopiesUptoSaid : Prop := diskCopiesUptoRow.holds Try.pinned (OpenSpec.upto diskCopiesSpec)

/-- 'augurlaw9.NamesResolve', WHERE WHAT IT READS IS OF BULK AT MOST 1048576: true; the input reads as it did. -/
def namesResolveUptoRow : OpenClaim := { program := "ytekolejeliefdaa", sum := "014d374a261d5d256a19188c9ad743175f8438c1bd2f68af39e40ace06c95a9a", func := "augur/augurlaw9.NamesResolve", spec := "namesResolve", unfollowed := true, recurses := true, apart := false, narrowed := true }
def NamesResolveUptoSaid : Prop := namesResolveUptoRow.holds Try.pinned (OpenSpec.upto namesResolveSpec)

/-- 'augurlaw9.NamesKinds', WHERE WHAT IT READS IS OF BULK AT MOST 1048576: true; the input reads as it did. -/
def namesKindsUptoRow : OpenClaim := { program := "ytekolejeliefdaa", sum := "014d374a261d5d256a19188c9ad743175f8438c1bd2f68af39e40ace06c95a9a", func := "augur/augurlaw9.NamesKinds", spec := "namesKinds", unfollowed := true, recurses := true, apart := false, narrowed := true }
def NamesKindsUptoSaid : Prop := namesKindsUptoRow.holds Try.pinned (OpenSpec.upto namesKindsSpec)

/-- 'augurlaw9.NamesAgain', WHERE WHAT IT READS IS OF BULK AT MOST 1048576: true; the input reads as it did. -/
def namesAgainUptoRow : OpenClaim := { program := "ytekolejeliefdaa", sum := "014d374a261d5d256a19188c9ad743175f8438c1bd2f68af39e40ace06c95a9a", func := "augur/augurlaw9.NamesAgain", spec := "namesAgain", unfollowed := true, recurses := true, apart := false, narrowed := true }
def NamesAgainUptoSaid : Prop := namesAgainUptoRow.holds Try.pinned (OpenSpec.upto namesAgainSpec)

/-- 'augurlaw4.WalForeign', WHERE WHAT IT READS IS OF BULK AT MOST 1048576: true; the input reads as it did. -/
def walForeignUptoRow : OpenClaim := { program := "ytekolejeliefdaa", sum := "014d374a261d5d256a19188c9ad743175f8438c1bd2f68af39e40ace06c95a9a", func := "augur/augurlaw4.WalForeign", spec := "walForeign", unfollowed := true, recurses := true, apart := false, narrowed := true }
def WalForeignUptoSaid : Prop := walForeignUptoRow.holds Try.pinned (OpenSpec.upto walForeignSpec)

/-- 'augurlaw4.WalResets', WHERE WHAT IT READS IS OF BULK AT MOST 1048576: true; the input reads as it did. -/
def walResetsUptoRow : OpenClaim := { program := "ytekolejeliefdaa", sum := "014d374a261d5d256a19188c9ad743175f8438c1bd2f68af39e40ace06c95a9a", func := "augur/augurlaw4.WalResets", spec := "walResets", unfollowed := true, recurses := true, apart := false, narrowed := true }
def WalResetsUptoSaid : Prop := walResetsUptoRow.holds Try.pinned (OpenSpec.upto walResetsSpec)

/-- 'augurlaw4.WalKeeps', WHERE WHAT IT READS IS OF BULK AT MOST 1048576: true; the input reads as it did. -/
def walKeepsUptoRow : OpenClaim := { program := "ytekolejeliefdaa", sum := "014d374a261d5d256a19188c9ad743175f8438c1bd2f68af39e40ace06c95a9a", func := "augur/augurlaw4.WalKeeps", spec := "walKeeps", unfollowed := true, recurses := true, apart := false, narrowed := true }
def WalKeepsUptoSaid : Prop := walKeepsUptoRow.holds Try.pinned (OpenSpec.upto walKeepsSpec)

/-- 'augurlaw4.WalTwice', WHERE WHAT IT READS IS OF BULK AT MOST 1048576: true; the input reads as it did. -/
def walTwiceUptoRow : OpenClaim := { program := "ytekolejeliefdaa", sum := "014d374a261d5d256a19188c9ad743175f8438c1bd2f68af39e40ace06c95a9a", func := "augur/augurlaw4.WalTwice", spec := "walTwice", unfollowed := true, recurses := true, apart := false, narrowed := true }
def WalTwiceUptoSaid : Prop := walTwiceUptoRow.holds Try.pinned (OpenSpec.upto walTwiceSpec)

end Rows
end Go.Proofs.Ytekolejeliefdaa
