/- The log, plain: what holds of a disk and a log while the power is on. No program in sight. -/
import Derived.Test.YtekolejeliefdaaGreatWalN
set_option linter.unusedVariables false
set_option linter.unusedSimpArgs false
namespace Go.Proofs.YtekolejeliefdaaGreat
open Go.RowKit

/-- A disk with power that will not go. -/
structure Live (s : DS) : Prop where
  ok : s.Ok
  cut : s.cut = -1
  dead : s.dead = false
theorem DS.Ok.put {s : DS} (h : s.Ok) {i : Nat} {b : List UInt8} (hi : i < s.sure.length) (hb : b.length = s.size) : ({ s with dirty := dput s.dirty i b } : DS).Ok := by
  refine ⟨h.n1, h.n2, h.z1, h.z2, h.sz, ?_, dput_sorted _ _ _ h.ds, h.c1, h.c2⟩
  intro p hp
  rcases mem_dput hp with rfl | hp
  · exact ⟨hi, hb⟩
  · exact h.dz p hp
theorem DS.Ok.settled {s : DS} (h : s.Ok) (f : Nat → List UInt8 → List UInt8 → List UInt8) (hf : ∀ k a b, a.length = s.size → b.length = s.size → (f k a b).length = s.size) : (s.settled f).Ok := by
  have hl : (s.settled f).sure.length = s.sure.length := by simp [DS.settled, stk_length]
  refine ⟨by rw [hl]; exact h.n1, by rw [hl]; exact h.n2, h.z1, h.z2, ?_, by intro p hp; simp [DS.settled] at hp, by simp [DS.settled], h.c1, h.c2⟩
  intro x hx
  obtain ⟨j, hj, rfl⟩ := List.getElem_of_mem hx
  have hk := stk_at f s.dirty s.sure h.ds (fun q hq => (h.dz q hq).1) j s.dirty.length (Nat.le_refl _)
  rw [List.take_length] at hk
  have hjs : j < s.sure.length := by rw [← hl]; exact hj
  have e : (s.settled f).sure[j] = (stk f s.dirty s.sure s.dirty.length).getD j [] := by
    rw [List.getD_eq_getElem?_getD, List.getElem?_eq_getElem (by rw [stk_length]; exact hjs)]
    rfl
  have hs : (s.sure.getD j []).length = s.size := by
    rw [List.getD_eq_getElem?_getD, List.getElem?_eq_getElem hjs]
    exact h.sz _ (List.getElem_mem _)
  rw [e]
  show _ = s.size
  cases hd : dget s.dirty j with
  | none => rw [hk.1 hd]; exact hs
  | some x =>
    obtain ⟨k, hk2⟩ := hk.2 x hd
    rw [hk2]
    exact hf _ _ _ hs (h.dz _ (dget_mem hd)).2
theorem Live.at_ {s : DS} (h : Live s) {i : Nat} (hi : i < s.sure.length) : s.at (i : Int) = 0 := by
  unfold DS.at
  rw [h.dead]
  simp only [Bool.false_eq_true, if_false]
  rw [if_neg (by omega)]
theorem Live.write {s : DS} (h : Live s) {i : Nat} {b : List UInt8} (hi : i < s.sure.length) (hb : b.length = s.size) : s.write (i : Int) b = ({ s with dirty := dput s.dirty i b }, 0) ∧ Live { s with dirty := dput s.dirty i b } := by
  have hp : s.power = (s, true) := by
    unfold DS.power
    rw [h.cut]
    simp
  refine ⟨?_, h.ok.put hi hb, h.cut, h.dead⟩
  unfold DS.write
  rw [if_neg (by rw [h.at_ hi]; simp), if_neg (by omega), hp]
  simp
theorem Live.flush {s : DS} (h : Live s) : s.flush = (s.settled (fun _ _ l => l), 0) ∧ Live (s.settled (fun _ _ l => l)) := by
  have hp : s.power = (s, true) := by
    unfold DS.power
    rw [h.cut]
    simp
  refine ⟨?_, h.ok.settled _ (fun _ _ _ _ h => h), h.cut, h.dead⟩
  unfold DS.flush
  rw [h.dead, hp]
  simp
theorem settled_len (s : DS) (f : Nat → List UInt8 → List UInt8 → List UInt8) : (s.settled f).sure.length = s.sure.length := by simp [DS.settled, stk_length]
/-- A frame's sectors, laid. -/
theorem layL_live (from_ t n z : Nat) (F : List UInt8) : ∀ (k : Nat) (s : DS), Live s → s.size = z + 16 → from_ + k ≤ s.sure.length →
    ∃ s', layL from_ t n z F k s = (s', 0, true) ∧ Live s' ∧ s'.size = s.size ∧ s'.sure.length = s.sure.length ∧ ∀ j, s'.last j = if from_ ≤ j ∧ j < from_ + k then secF z t n F (j - from_) else s.last j
  | 0, s, h, _, _ => ⟨s, rfl, h, rfl, rfl, fun j => by rw [if_neg (by omega)]⟩
  | 1, s, h, hz, hk => by
    obtain ⟨e1, h1⟩ := h.flush
    obtain ⟨e2, h2⟩ := h1.write (i := from_) (b := secF z t n F 0) (by rw [settled_len]; omega) (by rw [secF_length]; exact hz.symm)
    refine ⟨_, ?_, h2, rfl, settled_len _ _, fun j => ?_⟩
    · rw [layL, e1, if_neg (by simp), e2]
    · rw [last_write, last_flush h.ok]
      by_cases hj : from_ = j
      · subst hj
        rw [if_pos rfl, if_pos (by omega), Nat.sub_self]
      · rw [if_neg hj, if_neg (by omega)]
  | k + 2, s, h, hz, hk => by
    obtain ⟨e2, h2⟩ := h.write (i := from_ + (k + 1)) (b := secF z t n F (k + 1)) (by omega) (by rw [secF_length]; exact hz.symm)
    obtain ⟨s', e3, h3, h4, h5, h6⟩ := layL_live from_ t n z F (k + 1) _ h2 hz (by show from_ + (k + 1) ≤ s.sure.length; omega)
    refine ⟨s', ?_, h3, h4, h5, fun j => ?_⟩
    · rw [layL, e2, if_neg (by simp)]
      exact e3
    · rw [h6 j, last_write]
      by_cases hj : from_ + (k + 1) = j
      · subst hj
        rw [if_neg (by omega), if_pos rfl, if_pos (by omega)]
        congr 1
        omega
      · rw [if_neg hj]
        by_cases hj2 : from_ ≤ j ∧ j < from_ + (k + 1)
        · rw [if_pos hj2, if_pos (by omega)]
        · rw [if_neg hj2, if_neg (by omega)]
theorem layF_live (from_ t n : Nat) (F : List UInt8) (s : DS) (h : Live s) (hz : 16 ≤ s.size) (hk : from_ + secsF (s.size - 16) F.length ≤ s.sure.length) :
    ∃ s', layF from_ t n F s = (s', 0, false) ∧ (Live s' ∧ s'.dirty = []) ∧ s'.size = s.size ∧ s'.sure.length = s.sure.length ∧ ∀ j, s'.last j = if from_ ≤ j ∧ j < from_ + secsF (s.size - 16) F.length then secF (s.size - 16) t n F (j - from_) else s.last j := by
  obtain ⟨s1, e1, h1, h2, h3, h4⟩ := layL_live from_ t n (s.size - 16) F (secsF (s.size - 16) F.length) s h (by omega) hk
  obtain ⟨e2, h5⟩ := h1.flush
  refine ⟨_, ?_, ⟨h5, rfl⟩, h2, (settled_len _ _).trans h3, fun j => (last_flush h1.ok j).trans (h4 j)⟩
  unfold layF
  simp only [e1, e2]
  simp
/-- How many sectors records take. -/
def takeF (s : DS) (rs : List (List UInt8)) : Nat := secsF (s.size - 16) (32 + (bodyF rs).length)
/-- Is there no room for records at a place? -/
def fullF (s : DS) (a : Nat) (rs : List (List UInt8)) : Prop := (s.sure.length / 2 - a) * (s.size - 16) < 32 + (bodyF rs).length
theorem writeF_live {s : DS} {t n a : Nat} {rs : List (List UInt8)} (h : Live s) (hz : 128 ≤ s.size) (ha : a ≤ s.sure.length / 2) :
    (rs.any isLong = true ∧ writeF s t n a rs = (s, 0, 42, false)) ∨ (rs.any isLong = false ∧ fullF s a rs ∧ writeF s t n a rs = (s, 0, 40, false)) ∨
    (rs.any isLong = false ∧ ¬ fullF s a rs ∧ a + takeF s rs ≤ s.sure.length / 2 ∧ ∃ s', writeF s t n a rs = (s', a + takeF s rs, 0, false) ∧ (Live s' ∧ s'.dirty = []) ∧ s'.size = s.size ∧ s'.sure.length = s.sure.length ∧
      ∀ j, s'.last j = if t % 2 * (s.sure.length / 2) + a ≤ j ∧ j < t % 2 * (s.sure.length / 2) + a + takeF s rs then secF (s.size - 16) t n (frameF t n rs) (j - (t % 2 * (s.sure.length / 2) + a)) else s.last j) := by
  unfold writeF
  by_cases hl : rs.any isLong = true
  · rw [if_pos hl]
    exact .inl ⟨hl, rfl⟩
  · rw [if_neg hl]
    refine .inr ?_
    have hl' : rs.any isLong = false := by simpa using hl
    have hM : (s.sure.length / 2 - a) * (s.size - 16) ≤ s.sure.length * s.size := Nat.mul_le_mul (by omega) (by omega)
    by_cases hf : fullF s a rs
    · refine .inl ⟨hl', hf, ?_⟩
      rw [if_pos ?_]
      unfold fullF at hf
      omega
    · have hfit : secsF (s.size - 16) (32 + (bodyF rs).length) ≤ s.sure.length / 2 - a := by
        refine secs_fit (by omega) ?_
        unfold fullF at hf
        omega
      have h1 : t % 2 * (s.sure.length / 2) ≤ 1 * (s.sure.length / 2) := Nat.mul_le_mul_right _ (by omega)
      obtain ⟨s', e, h2, h3, h4, h5⟩ := layF_live (t % 2 * (s.sure.length / 2) + a) t n (frameF t n rs) s h (by omega) (by rw [frameF_length]; omega)
      rw [frameF_length] at h5
      have hnf : ¬ (s.sure.length / 2 - a) * (s.size - 16) < min (32 + (bodyF rs).length) (s.sure.length * s.size + 1) := by
        unfold fullF at hf
        omega
      refine .inr ⟨hl', hf, by unfold takeF; omega, s', ?_, h2, h3, h4, h5⟩
      rw [if_neg hnf, e]
      rfl
end Go.Proofs.YtekolejeliefdaaGreat
