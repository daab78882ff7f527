/- The log, plain: commits, resets, a new disk. No program in sight. -/
import Derived.Test.YtekolejeliefdaaGreatWalP
set_option linter.unusedVariables false
set_option linter.unusedSimpArgs false
namespace Go.Proofs.YtekolejeliefdaaGreat
open Go.RowKit

theorem tail1_sec {s : DS} {t n : Nat} {F : List UInt8} {i : Nat} (ht : t < 18446744073709551616) : tail1 s (secF (s.size - 16) t n F i) = if i = 0 then t else 0 := by
  unfold tail1
  rw [secF_drop]
  unfold tailF
  split
  · rw [List.take_left' (by simp), getF_put8 t ht]
  · exact getF_zero 8
theorem tail2_sec {s : DS} {t n : Nat} {F : List UInt8} {i : Nat} (hn : n + 1 < 18446744073709551616) : tail2 s (secF (s.size - 16) t n F i) = if i = 0 then n + 1 else 0 := by
  unfold tail2
  rw [secF_drop]
  unfold tailF
  split
  · rw [List.drop_left' (by simp), getF_put8 _ (Nat.mod_lt _ (by omega)), Nat.mod_eq_of_lt hn]
  · exact getF_zero 8
theorem isLong_small {rs : List (List UInt8)} (h : rs.any isLong = false) : ∀ r ∈ rs, r.length ≤ 1048576 := by
  intro r hr
  have := List.any_eq_false.1 h r hr
  simp [isLong] at this
  omega

section
variable {s : DS} {l : LS} {out : List (List UInt8)}
theorem LS.und_eq (h : l.undone = []) (f t : Nat) : ({ l with undone := undoF false f t } : LS) = l := by
  cases l
  simp_all [undoF]
theorem Inv.commit (h : Inv s l out) (hn : l.next + 1 < 4611686018427387904) (rs : List (List UInt8)) :
    (rs.any isLong = true ∧ commitF s l rs = (s, l, 42)) ∨ (rs.any isLong = false ∧ fullF s l.at_ rs ∧ commitF s l rs = (s, l, 40)) ∨
    (rs.any isLong = false ∧ ¬ fullF s l.at_ rs ∧ ∃ s' l', commitF s l rs = (s', l', 0) ∧ Inv s' l' (out ++ rs) ∧ s'.size = s.size ∧ s'.sure.length = s.sure.length ∧ l'.turn = l.turn ∧ l'.next = l.next + 1 ∧ l'.at_ = l.at_ + takeF s rs) := by
  have hu := LS.und_eq h.und (l.turn % 2 * (s.sure.length / 2) + l.at_) l.turn
  rcases writeF_live (t := l.turn) (n := l.next) (rs := rs) h.live h.z128 h.at_ with ⟨h1, h2⟩ | ⟨h1, h2, h3⟩ | ⟨h1, h2, h3, s', h4, h5, h6, h7, h8⟩
  · refine .inl ⟨h1, ?_⟩
    simp only [commitF, h2]
    rw [if_neg (by simp), hu]
  · refine .inr (.inl ⟨h1, h2, ?_⟩)
    simp only [commitF, h3]
    rw [if_neg (by simp), hu]
  · refine .inr (.inr ⟨h1, h2, s', { l with next := l.next + 1, at_ := l.at_ + takeF s rs, count := l.count + rs.length, undone := [] }, ?_, ?_, h6, h7, rfl, rfl, rfl⟩)
    · simp only [commitF, h4]
      rw [if_pos trivial, Nat.mod_eq_of_lt (by omega)]
      rfl
    · have ht := h.turn
      have hs : l.turn % 2 ≤ 1 := by omega
      refine ⟨h5.1, by rw [h7]; exact h.n16, by rw [h6]; exact h.z128, rfl, h.turn, hn, by rw [h7]; exact h3, by rw [h.count, List.length_append], ?_, ?_, by simp, h5.2⟩
      · intro i hi
        have e1 : ∀ x, tail1 s' x = tail1 s x := fun x => by unfold tail1; rw [h6]
        have e2 : ∀ x, tail2 s' x = tail2 s x := fun x => by unfold tail2; rw [h6]
        rw [e1, e2, h8 i]
        split
        · rw [tail1_sec (by omega), tail2_sec (by omega)]
          split
          · exact ⟨Nat.le_refl _, fun _ => Nat.le_refl _⟩
          · exact ⟨Nat.zero_le _, fun _ => Nat.zero_le _⟩
        · have := h.tails i (by rw [← h7]; exact hi)
          exact ⟨this.1, fun e => Nat.le_succ_of_le (this.2 e)⟩
      · obtain ⟨bs, hf, hout⟩ := h.frames
        have hk : Frames s' l.turn bs 0 0 l.at_ l.next := by
          refine hf.keep h6 h7 (fun j hj => ?_)
          rw [h8, if_neg (by omega)]
        have e : takeF s rs = takeF s' rs := by unfold takeF; rw [h6]
        refine ⟨bs ++ [rs], ?_, by simp [hout]⟩
        show Frames s' l.turn (bs ++ [rs]) 0 0 (l.at_ + takeF s rs) (l.next + 1)
        rw [e]
        refine hk.snoc ⟨?_, fun i hi => ?_⟩ (isLong_small h1)
        · rw [h7]
          show l.at_ + takeF s' rs ≤ _
          rw [← e]
          exact h3
        · have hi2 : i < takeF s rs := by rw [e]; exact hi
          rw [h7, h8, if_pos (by omega), h6]
          congr 1
          omega
theorem Inv.reset (h : Inv s l out) (ht : l.turn + 1 < 4611686018427387904) (rs : List (List UInt8)) :
    (rs.any isLong = true ∧ resetF s l rs = (s, l, 42)) ∨ (rs.any isLong = false ∧ fullF s 0 rs ∧ resetF s l rs = (s, l, 40)) ∨
    (rs.any isLong = false ∧ ¬ fullF s 0 rs ∧ ∃ s' l', resetF s l rs = (s', l', 0) ∧ Inv s' l' rs ∧ s'.size = s.size ∧ s'.sure.length = s.sure.length ∧ l'.turn = l.turn + 1 ∧ l'.next = 1 ∧ l'.at_ = takeF s rs) := by
  have htm : (l.turn + 1) % 18446744073709551616 = l.turn + 1 := Nat.mod_eq_of_lt (by omega)
  have hu := LS.und_eq h.und ((l.turn + 1) % 2 * (s.sure.length / 2) + 0) (l.turn + 1)
  rcases writeF_live (t := l.turn + 1) (n := 0) (a := 0) (rs := rs) h.live h.z128 (Nat.zero_le _) with ⟨h1, h2⟩ | ⟨h1, h2, h3⟩ | ⟨h1, h2, h3, s', h4, h5, h6, h7, h8⟩
  · refine .inl ⟨h1, ?_⟩
    simp only [resetF, htm, h2]
    rw [if_neg (by simp), hu]
  · refine .inr (.inl ⟨h1, h2, ?_⟩)
    simp only [resetF, htm, h3]
    rw [if_neg (by simp), hu]
  · refine .inr (.inr ⟨h1, h2, s', { turn := l.turn + 1, next := 1, at_ := 0 + takeF s rs, count := rs.length, undone := [] }, ?_, ?_, h6, h7, rfl, rfl, Nat.zero_add _⟩)
    · simp only [resetF, htm, h4]
      rw [if_pos trivial]
      rfl
    · have hs : (l.turn + 1) % 2 ≤ 1 := by omega
      refine ⟨h5.1, by rw [h7]; exact h.n16, by rw [h6]; exact h.z128, rfl, ht, by show 1 < _; omega, by rw [h7]; exact h3, rfl, ?_, ?_, by simp, h5.2⟩
      · intro i hi
        have e1 : ∀ x, tail1 s' x = tail1 s x := fun x => by unfold tail1; rw [h6]
        have e2 : ∀ x, tail2 s' x = tail2 s x := fun x => by unfold tail2; rw [h6]
        rw [e1, e2, h8 i]
        split
        · rw [tail1_sec (by omega), tail2_sec (by omega)]
          split
          · exact ⟨Nat.le_refl _, fun _ => Nat.le_refl _⟩
          · exact ⟨Nat.zero_le _, fun _ => Nat.zero_le _⟩
        · have := (h.tails i (by rw [← h7]; exact hi)).1
          exact ⟨Nat.le_succ_of_le this, fun e => by simp only at e; omega⟩
      · have e : takeF s rs = takeF s' rs := by unfold takeF; rw [h6]
        refine ⟨[rs], ?_, by simp⟩
        show Frames s' (l.turn + 1) ([] ++ [rs]) 0 0 (0 + takeF s rs) (0 + 1)
        rw [e]
        refine Frames.snoc (bs := []) ⟨rfl, rfl⟩ ⟨?_, fun i hi => ?_⟩ (isLong_small h1)
        · rw [h7]
          show 0 + takeF s' rs ≤ _
          rw [← e]
          exact h3
        · have hi2 : i < takeF s rs := by rw [e]; exact hi
          rw [h7, h8, if_pos (by omega), h6]
          congr 1
          omega
end
/-- A new disk holds a log of nothing. -/
theorem new_ok (n size : Int) : (DS.new n size).Ok := by
  refine ⟨?_, ?_, ?_, ?_, ?_, by intro p hp; simp [DS.new] at hp, by simp [DS.new], by simp [DS.new], by simp [DS.new]⟩
  · simp [DS.new]; omega
  · simp [DS.new]; omega
  · simp [DS.new]; omega
  · simp [DS.new]; omega
  · intro x hx
    simp only [DS.new, List.mem_replicate] at hx
    rw [hx.2]
    simp [DS.new]
theorem new_live (n size : Int) : Live (DS.new n size) := ⟨new_ok n size, rfl, rfl⟩
theorem new_inv (n size : Int) (hn : 16 ≤ (DS.new n size).sure.length) (hz : 128 ≤ (DS.new n size).size) : Inv (DS.new n size) { turn := 0, next := 0, at_ := 0, count := 0, undone := [] } [] := by
  refine ⟨new_live n size, hn, hz, rfl, by show 0 < _; omega, by show 0 < _; omega, Nat.zero_le _, rfl, ?_, ⟨[], ⟨rfl, rfl⟩, rfl⟩, fun _ => rfl, rfl⟩
  intro i hi
  have e : (DS.new n size).last i = List.replicate (DS.new n size).size 0 := by
    have hi2 := hi
    unfold DS.last
    have : dget (DS.new n size).dirty i = none := rfl
    rw [this, Option.getD_none, List.getD_eq_getElem?_getD, List.getElem?_eq_getElem hi]
    simp [DS.new]
  have h1 : tail1 (DS.new n size) ((DS.new n size).last i) = 0 := by
    unfold tail1
    rw [e, List.drop_replicate, List.take_replicate]
    exact getF_zero _
  have h2 : tail2 (DS.new n size) ((DS.new n size).last i) = 0 := by
    unfold tail2
    rw [e, List.drop_replicate, List.drop_replicate]
    exact getF_zero _
  rw [h1, h2]
  exact ⟨Nat.le_refl _, fun _ => Nat.le_refl _⟩
end Go.Proofs.YtekolejeliefdaaGreat
