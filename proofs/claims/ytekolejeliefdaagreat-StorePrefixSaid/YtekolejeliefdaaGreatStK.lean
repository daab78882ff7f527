/- A store that has been opened since a law's beginning. -/
import Derived.Test.YtekolejeliefdaaGreatStJ
set_option linter.unusedVariables false
set_option linter.unusedSimpArgs false
namespace Go.Proofs.YtekolejeliefdaaGreat
open Go.RowKit

/-- A store since w0: its block, its map's block, over a log and its disk. -/
structure Sto (w0 w : World) (sp b lp um p g m : Nat) (s : DS) (l : LS) (d : SM) : Prop where
  sys : Sys w0 w lp um p g m s l
  st : w.heap[sp]? = some (.cells #[.pointer (some ⟨lp, 0, none⟩), .map (some b), .bool false] 119 (0, 0))
  mp : SMap w b d
  new : w0.heap.size ≤ sp ∧ w0.heap.size ≤ b
  ne : b ≠ um ∧ b ≠ m

section
variable {w0 w w1 : World} {sp b lp um p g m : Nat} {s : DS} {l : LS} {d : SM}
theorem Sto.new_ext (h : Sto w0 w sp b lp um p g m s l d) (hx : Ext (fun _ => False) w w1) : Sto w0 w1 sp b lp um p g m s l d :=
  ⟨h.sys.new_ext hx, (hx.block _ (lt_of_heap h.st) id).trans h.st, MapL.kept h.mp (hx.block _ (MapL.lt h.mp) id), h.new, h.ne⟩
theorem Sto.lt (h : Sto w0 w sp b lp um p g m s l d) : sp < w.heap.size ∧ b < w.heap.size := ⟨lt_of_heap h.st, MapL.lt h.mp⟩
/-- The store's block is none of the log's and the disk's. -/
theorem Sto.apart (h : Sto w0 w sp b lp um p g m s l d) : sp ≠ lp ∧ sp ≠ um ∧ sp ≠ p ∧ sp ≠ g ∧ sp ≠ m ∧ sp ≠ b ∧ b ≠ lp ∧ b ≠ um ∧ b ≠ p ∧ b ≠ g ∧ b ≠ m := by
  have hl := h.sys.log
  obtain ⟨sv, hb, cap, cur, rfl, hg, _⟩ := hl.disk.blk
  obtain ⟨es, cl, hu, _⟩ := hl.und
  obtain ⟨l', ⟨es', cl', hm, _⟩, _⟩ := hl.disk.map
  obtain ⟨es2, cl2, hmp, _⟩ := h.mp
  have hlb := hl.blk
  have hst := h.st
  refine ⟨fun e => ?_, fun e => ?_, fun e => ?_, fun e => ?_, fun e => ?_, fun e => ?_, fun e => ?_, h.ne.1, fun e => ?_, fun e => ?_, h.ne.2⟩ <;> subst e <;> simp_all

theorem noted_any (sp : Nat) (w : World) : Calls Tryz.prog 55 #[.pointer (some ⟨sp, 0, none⟩), .int .i64 0] w fun e w' => e = .returned (.int .i64 0) ∧ w' = w := by
  go_enter Tryz.func55, Tryz.ntmps55
  go_wp2
  go_ret
  exact ⟨rfl, rfl⟩
end

end Go.Proofs.YtekolejeliefdaaGreat
