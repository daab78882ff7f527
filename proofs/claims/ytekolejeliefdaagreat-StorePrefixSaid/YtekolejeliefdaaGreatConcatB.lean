/- slices.Grow and slices.Concat at this program's instances. -/
import Derived.Test.YtekolejeliefdaaGreatLayS
import Derived.Test.YtekolejeliefdaaGreatBase
import Derived.Deep.LoopGhost
set_option linter.unusedVariables false
set_option linter.unusedSimpArgs false
namespace Go.Proofs.YtekolejeliefdaaGreat
open Go.RowKit

/-- The lengths and the cells of parts, one behind another. -/
def plen (l : List (Value × Nat × List Value)) : Nat := (l.map (·.2.1)).sum
def pcells (l : List (Value × Nat × List Value)) : List Value := l.flatMap (·.2.2)
theorem plen_take {l : List (Value × Nat × List Value)} {j : Nat} {p : Value × Nat × List Value} (h : l[j]? = some p) : plen (l.take (j + 1)) = plen (l.take j) + p.2.1 := by
  rw [List.take_add_one, h]
  simp [plen]
theorem pcells_take {l : List (Value × Nat × List Value)} {j : Nat} {p : Value × Nat × List Value} (h : l[j]? = some p) : pcells (l.take (j + 1)) = pcells (l.take j) ++ p.2.2 := by
  rw [List.take_add_one, h]
  simp [pcells]
theorem plen_le (l : List (Value × Nat × List Value)) (j : Nat) : plen (l.take j) ≤ plen l := by
  have : plen l = plen (l.take j) + plen (l.drop j) := by
    unfold plen
    rw [← List.sum_append, ← List.map_append, List.take_append_drop]
  omega

end Go.Proofs.YtekolejeliefdaaGreat
