/- Contracts of the library's generic functions at this program's instances, in this seat's own words. -/
import Derived.Test.YtekolejeliefdaaGreatProg
import Derived.Test.YtekolejeliefdaaGreatBase
import Derived.Shelf.SlicesE.Clone
set_option linter.unusedVariables false
set_option linter.unusedSimpArgs false
namespace Go.Proofs.YtekolejeliefdaaGreat
open Go.RowKit

def cloneB_ren : Go.Shelf.Ren := ⟨fun | 41 => 133 | n => n, fun | 4 => 4 | 22 => 114 | 23 => 5 | n => n, fun n => n⟩
theorem cloneB : SlLaysE0.n41 Tryz.prog cloneB_ren := { mixed := by kernel_rfl, f41 := ⟨Tryz.f133.name, by decide, Tryz.func133.trans (congrArg some (by kernel_rfl))⟩, t4 := Tryz.underlying4, a4 := Tryz.isAgg4, z4 := Tryz.sizeOf4, v4 := Tryz.zeroValue4, t22 := Tryz.underlying114, a22 := Tryz.isAgg114, z22 := Tryz.sizeOf114, v22 := Tryz.zeroValue114 }

theorem cloneB_any {w : World} {v : Value} {n : Nat} {cs : List Value} (h : Rd w 5 1 v n cs) (h1 : ∀ u ∈ cs, u.oneCell' = true) (hn : n ≤ 140737488355328) :
    Calls Tryz.prog 133 #[v] w fun e w' => ∃ v', e = .returned v' ∧ w'.ownsRow w.heap.size 5 1 v' n cs ∧ Below w.heap.size w w' := by
  obtain ⟨hl, hm, c, ⟨rfl, rfl⟩ | ⟨b, off, rfl, _, hr⟩⟩ := h
  · obtain rfl : cs = [] := List.eq_nil_of_length_eq_zero (by simpa using hl)
    refine (AnyE.slices_Clone_nil cloneB 0 0 w).mono ?_
    rintro e w' ⟨rfl, rfl⟩
    exact ⟨_, rfl, World.ownsRow_nil _ _ _ _, Below.refl _ _⟩
  · obtain ⟨i0, hi, hz⟩ := Option.map_eq_some_iff.1 (show (Tryz.prog.info? 5).map (fun i => (i.zero, i.size, i.bytes)) = some (some (.int .u8 0), 1, 1) by kernel_rfl)
    simp only [Prod.mk.injEq] at hz
    refine (AnyE.slices_Clone cloneB i0 (.int .u8 0) 1 1 hi hz.1 hz.2.1 hz.2.2 rfl (by decide) Tryz.sizeOf5 b off n c cs w hl hm (by omega) ?_ h1).mono ?_
    · intro j u hj
      have hjn : j < n * 1 := by rw [← hl]; exact (List.getElem?_eq_some_iff.1 hj).1
      rcases hr with rfl | ⟨cur, fr, hb, ht⟩
      · omega
      · rw [cell_of_block hb, ← hj, ← ht, List.getElem?_take_of_lt hjn, List.getElem?_drop, Array.getElem?_toList]
    · rintro e w' ⟨v', rfl, ho, _, hb⟩
      exact ⟨v', rfl, ho, hb⟩
end Go.Proofs.YtekolejeliefdaaGreat
