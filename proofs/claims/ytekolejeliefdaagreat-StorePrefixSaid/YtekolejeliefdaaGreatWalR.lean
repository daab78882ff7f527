/- The log, plain: a commit that a crash cuts off. No program in sight. -/
import Derived.Test.YtekolejeliefdaaGreatWalQ
set_option linter.unusedVariables false
set_option linter.unusedSimpArgs false
namespace Go.Proofs.YtekolejeliefdaaGreat
open Go.RowKit

/-- A crash that tears nothing: each sector is what was sure, or what was written last. -/
theorem crash_at {s : DS} (h : s.Ok) (keep : Nat) (j : Nat) : (s.crash keep (-1) 0).last j = s.sure.getD j [] ∨ dget s.dirty j = some ((s.crash keep (-1) 0).last j) := by
  have hk := stk_at (crashF keep (-1) (min (max (0 : Int) 0) s.size).toNat) s.dirty s.sure h.ds (fun q hq => (h.dz q hq).1) j s.dirty.length (Nat.le_refl _)
  rw [List.take_length] at hk
  have e : (s.crash keep (-1) 0).last j = (stk (crashF keep (-1) (min (max (0 : Int) 0) s.size).toNat) s.dirty s.sure s.dirty.length).getD j [] := by simp [DS.crash, DS.settled, DS.last, dget]
  rw [e]
  cases hx : dget s.dirty j with
  | none => exact .inl (hk.1 hx)
  | some x =>
    obtain ⟨k, hk2⟩ := hk.2 x hx
    rw [hk2]
    unfold crashF
    rw [if_neg (by omega)]
    split
    · exact .inr rfl
    · exact .inl rfl
theorem crash_live {s : DS} (h : s.Ok) (keep : Nat) : Live (s.crash keep (-1) 0) ∧ (s.crash keep (-1) 0).dirty = [] ∧ (s.crash keep (-1) 0).size = s.size ∧ (s.crash keep (-1) 0).sure.length = s.sure.length := by
  have h1 := h.settled (crashF keep (-1) (min (max (0 : Int) 0) s.size).toNat) (by
    intro k a b ha hb
    unfold crashF
    split
    · simp
      omega
    · split <;> assumption)
  refine ⟨⟨⟨h1.n1, h1.n2, h1.z1, h1.z2, h1.sz, h1.dz, h1.ds, by simp [DS.crash], by simp [DS.crash]⟩, rfl, rfl⟩, rfl, rfl, settled_len _ _⟩
section
variable {s s' : DS} {l : LS} {out : List (List UInt8)}
/-- Sectors behind a log's end may hold what begins no frame. -/
theorem Inv.mix (h : Inv s l out) (hl : Live s') (hd : s'.dirty = []) (hz : s'.size = s.size) (hn : s'.sure.length = s.sure.length)
    (hk : ∀ j, j < s.sure.length → s'.last j = s.last j ∨ ((∀ i, i < l.at_ → j ≠ l.turn % 2 * (s.sure.length / 2) + i) ∧ tail1 s (s'.last j) = 0 ∧ tail2 s (s'.last j) = 0)) : Inv s' l out := by
  have e1 : ∀ x, tail1 s' x = tail1 s x := fun x => by unfold tail1; rw [hz]
  have e2 : ∀ x, tail2 s' x = tail2 s x := fun x => by unfold tail2; rw [hz]
  refine ⟨hl, by rw [hn]; exact h.n16, by rw [hz]; exact h.z128, h.und, h.turn, h.next, by rw [hn]; exact h.at_, h.count, ?_, ?_, h.first, hd⟩
  · intro i hi
    rw [e1, e2]
    rcases hk i (by rw [← hn]; exact hi) with hq | ⟨_, q1, q2⟩
    · rw [hq]
      exact h.tails i (by rw [← hn]; exact hi)
    · rw [q1, q2]
      exact ⟨Nat.zero_le _, fun _ => Nat.zero_le _⟩
  · obtain ⟨bs, hf, hout⟩ := h.frames
    refine ⟨bs, hf.keep hz hn (fun j hj => ?_), hout⟩
    have hat := h.at_
    rcases hk (l.turn % 2 * (s.sure.length / 2) + j) (side_lt (by omega) (by omega)) with hq | ⟨q0, _⟩
    · exact hq
    · exact absurd rfl (q0 j hj)
/-- A frame more lies on the disk. -/
theorem Inv.more (h : Inv s l out) (hnx : l.next + 1 < 4611686018427387904) {rs : List (List UInt8)} (hr : ∀ r ∈ rs, r.length ≤ 1048576) (hfit : l.at_ + takeF s rs ≤ s.sure.length / 2) (hl : Live s') (hd : s'.dirty = []) (hz : s'.size = s.size) (hn : s'.sure.length = s.sure.length)
    (hk : ∀ j, s'.last j = if l.turn % 2 * (s.sure.length / 2) + l.at_ ≤ j ∧ j < l.turn % 2 * (s.sure.length / 2) + l.at_ + takeF s rs then secF (s.size - 16) l.turn l.next (frameF l.turn l.next rs) (j - (l.turn % 2 * (s.sure.length / 2) + l.at_)) else s.last j) :
    Inv s' { l with next := l.next + 1, at_ := l.at_ + takeF s rs, count := l.count + rs.length, undone := [] } (out ++ rs) := by
  have ht := h.turn
  have hs : l.turn % 2 ≤ 1 := by omega
  refine ⟨hl, by rw [hn]; exact h.n16, by rw [hz]; exact h.z128, rfl, h.turn, hnx, by rw [hn]; exact hfit, by rw [h.count, List.length_append], ?_, ?_, by simp, hd⟩
  · intro i hi
    have e1 : ∀ x, tail1 s' x = tail1 s x := fun x => by unfold tail1; rw [hz]
    have e2 : ∀ x, tail2 s' x = tail2 s x := fun x => by unfold tail2; rw [hz]
    rw [e1, e2, hk i]
    split
    · rw [tail1_sec (by omega), tail2_sec (by omega)]
      split
      · exact ⟨Nat.le_refl _, fun _ => Nat.le_refl _⟩
      · exact ⟨Nat.zero_le _, fun _ => Nat.zero_le _⟩
    · have := h.tails i (by rw [← hn]; exact hi)
      exact ⟨this.1, fun e => Nat.le_succ_of_le (this.2 e)⟩
  · obtain ⟨bs, hf, hout⟩ := h.frames
    have hk2 : Frames s' l.turn bs 0 0 l.at_ l.next := by
      refine hf.keep hz hn (fun j hj => ?_)
      rw [hk, if_neg (by omega)]
    have e : takeF s rs = takeF s' rs := by unfold takeF; rw [hz]
    refine ⟨bs ++ [rs], ?_, by simp [hout]⟩
    show Frames s' l.turn (bs ++ [rs]) 0 0 (l.at_ + takeF s rs) (l.next + 1)
    rw [e]
    refine hk2.snoc ⟨?_, fun i hi => ?_⟩ hr
    · rw [hn]
      show l.at_ + takeF s' rs ≤ _
      rw [← e]
      exact hfit
    · have hi2 : i < takeF s rs := by rw [e]; exact hi
      rw [hn, hk, if_pos (by omega), hz]
      congr 1
      omega
end

/-- One call that takes power: it is done, or the disk is dead. -/
theorem write_or {s : DS} (h : s.Ok) (hd : s.dead = false) {i : Nat} {b : List UInt8} (hi : i < s.sure.length) (hb : b.length = s.size) :
    (∃ c, -1 ≤ c ∧ c ≤ 9223372036854775807 ∧ s.write (i : Int) b = ({ s with cut := c, dirty := dput s.dirty i b }, 0)) ∨ s.write (i : Int) b = ({ s with dead := true }, 32) := by
  have h1 := h.c1
  have h2 := h.c2
  have hat : s.at (i : Int) = 0 := by
    unfold DS.at
    rw [hd]
    simp only [Bool.false_eq_true, if_false]
    rw [if_neg (by omega)]
  unfold DS.write
  rw [if_neg (by rw [hat]; simp), if_neg (by omega)]
  unfold DS.power
  by_cases h0 : s.cut = 0
  · rw [if_pos h0]
    exact .inr rfl
  · rw [if_neg h0]
    by_cases h3 : 0 < s.cut
    · rw [if_pos h3]
      exact .inl ⟨s.cut - 1, by omega, by omega, rfl⟩
    · rw [if_neg h3]
      exact .inl ⟨s.cut, by omega, by omega, rfl⟩
theorem flush_or {s : DS} (h : s.Ok) (hd : s.dead = false) :
    (∃ c, -1 ≤ c ∧ c ≤ 9223372036854775807 ∧ s.flush = ({ s.settled (fun _ _ l => l) with cut := c }, 0)) ∨ s.flush = ({ s with dead := true }, 32) := by
  have h1 := h.c1
  have h2 := h.c2
  unfold DS.flush
  rw [hd]
  simp only [Bool.false_eq_true, if_false]
  unfold DS.power
  by_cases h0 : s.cut = 0
  · rw [if_pos h0]
    exact .inr rfl
  · rw [if_neg h0]
    by_cases h3 : 0 < s.cut
    · rw [if_pos h3]
      exact .inl ⟨s.cut - 1, by omega, by omega, rfl⟩
    · rw [if_neg h3]
      exact .inl ⟨s.cut, by omega, by omega, rfl⟩
theorem DS.Ok.cutTo {s : DS} (h : s.Ok) (c : Int) (h1 : -1 ≤ c) (h2 : c ≤ 9223372036854775807) : ({ s with cut := c } : DS).Ok := ⟨h.n1, h.n2, h.z1, h.z2, h.sz, h.dz, h.ds, h1, h2⟩
theorem DS.Ok.putCut {s : DS} (h : s.Ok) {i : Nat} {b : List UInt8} (hi : i < s.sure.length) (hb : b.length = s.size) (c : Int) (h1 : -1 ≤ c) (h2 : c ≤ 9223372036854775807) : ({ s with cut := c, dirty := dput s.dirty i b } : DS).Ok :=
  have q := h.put hi hb
  ⟨q.n1, q.n2, q.z1, q.z2, q.sz, q.dz, q.ds, h1, h2⟩
theorem DS.Ok.die {s : DS} (h : s.Ok) : ({ s with dead := true } : DS).Ok := ⟨h.n1, h.n2, h.z1, h.z2, h.sz, h.dz, h.ds, h.c1, h.c2⟩
/-- How far the laying of a frame's sectors came. -/
structure Laid (s0 s : DS) (from_ t n z : Nat) (F : List UInt8) (lo hi : Nat) : Prop where
  ok : s.Ok
  size : s.size = s0.size
  len : s.sure.length = s0.sure.length
  sure : ∀ j, s.sure.getD j [] = s0.sure.getD j []
  dirty : ∀ j, dget s.dirty j = if from_ + lo ≤ j ∧ j < from_ + hi then some (secF z t n F (j - from_)) else none
/-- .. the sectors behind the first are sure. -/
structure Sure (s0 s : DS) (from_ t n z : Nat) (F : List UInt8) (hi : Nat) : Prop where
  ok : s.Ok
  size : s.size = s0.size
  len : s.sure.length = s0.sure.length
  sure : ∀ j, s.sure.getD j [] = if from_ + 1 ≤ j ∧ j < from_ + hi then secF z t n F (j - from_) else s0.sure.getD j []
theorem layL_cut (s0 : DS) (from_ t n z : Nat) (F : List UInt8) (K : Nat) (hz : s0.size = z + 16) (hK : from_ + K ≤ s0.sure.length) : ∀ (k : Nat) (s : DS), 1 ≤ k → k ≤ K → s.dead = false → Laid s0 s from_ t n z F k K →
    (∃ s', layL from_ t n z F k s = (s', 0, true) ∧ s'.dead = false ∧ Sure s0 s' from_ t n z F K ∧ ∀ j, dget s'.dirty j = if j = from_ then some (secF z t n F 0) else none) ∨
    (∃ s', layL from_ t n z F k s = (s', 32, true) ∧ Sure s0 s' from_ t n z F K ∧ s'.dirty = []) ∨
    (∃ s' lo, layL from_ t n z F k s = (s', 32, false) ∧ 1 ≤ lo ∧ Laid s0 s' from_ t n z F lo K)
  | 0, s, h1, _, _, _ => by omega
  | 1, s, _, h2, hd, h => by
    rcases flush_or h.ok hd with ⟨c, c1, c2, e⟩ | e
    · have hok := (h.ok.settled (fun _ _ l => l) (fun _ _ _ _ h => h)).cutTo c c1 c2
      have hsure : ∀ j, (s.settled (fun _ _ l => l)).sure.getD j [] = if from_ + 1 ≤ j ∧ j < from_ + K then secF z t n F (j - from_) else s0.sure.getD j [] := by
        intro j
        have q := last_flush h.ok j
        have q2 : (s.settled (fun _ _ l => l)).last j = (s.settled (fun _ _ l => l)).sure.getD j [] := by simp [DS.settled, DS.last, dget]
        rw [← q2, q]
        unfold DS.last
        rw [h.dirty j, h.sure j]
        split <;> rfl
      have hlen : (s.settled (fun _ _ l => l)).sure.length = s0.sure.length := (settled_len _ _).trans h.len
      rcases write_or (i := from_) (b := secF z t n F 0) hok hd (by show from_ < (s.settled _).sure.length; rw [hlen]; omega) (by rw [secF_length]; show _ = s.size; rw [h.size, hz]) with ⟨c', d1, d2, e2⟩ | e2
      · refine .inl ⟨({ s.settled (fun _ _ l => l) with cut := c', dirty := dput (s.settled (fun _ _ l => l)).dirty from_ (secF z t n F 0) } : DS), ?_, hd, ⟨hok.putCut (i := from_) (b := secF z t n F 0) (by show from_ < (s.settled _).sure.length; rw [hlen]; omega) (by rw [secF_length]; show _ = s.size; rw [h.size, hz]) c' d1 d2, h.size, hlen, hsure⟩, ?_⟩
        · rw [layL, e, if_neg (by simp), e2]
        · intro j
          show dget (dput [] from_ _) j = _
          rw [dget_dput]
          by_cases hj : from_ = j
          · rw [if_pos hj, if_pos hj.symm]
          · rw [if_neg hj, if_neg (Ne.symm hj)]
            rfl
      · refine .inr (.inl ⟨_, ?_, ⟨hok.die, h.size, hlen, hsure⟩, rfl⟩)
        rw [layL, e, if_neg (by simp), e2]
    · refine .inr (.inr ⟨_, 1, ?_, Nat.le_refl _, ⟨h.ok.die, h.size, h.len, h.sure, h.dirty⟩⟩)
      rw [layL, e, if_pos (by simp)]
  | k + 2, s, _, h2, hd, h => by
    have hi : from_ + (k + 1) < s.sure.length := by rw [h.len]; omega
    have hb : (secF z t n F (k + 1)).length = s.size := by rw [secF_length, h.size, hz]
    rcases write_or (i := from_ + (k + 1)) (b := secF z t n F (k + 1)) h.ok hd hi hb with ⟨c, c1, c2, e⟩ | e
    · have h' : Laid s0 { s with cut := c, dirty := dput s.dirty (from_ + (k + 1)) (secF z t n F (k + 1)) } from_ t n z F (k + 1) K := by
        refine ⟨h.ok.putCut hi hb c c1 c2, h.size, h.len, h.sure, fun j => ?_⟩
        show dget (dput _ _ _) j = _
        rw [dget_dput, h.dirty j]
        by_cases hj : from_ + (k + 1) = j
        · subst hj
          rw [if_pos rfl, if_pos (by omega)]
          congr 2
          omega
        · rw [if_neg hj]
          by_cases hj2 : from_ + (k + 2) ≤ j ∧ j < from_ + K
          · rw [if_pos hj2, if_pos (by omega)]
          · rw [if_neg hj2, if_neg (by omega)]
      have hl : layL from_ t n z F (k + 2) s = layL from_ t n z F (k + 1) { s with cut := c, dirty := dput s.dirty (from_ + (k + 1)) (secF z t n F (k + 1)) } := by
        rw [layL, e, if_neg (by simp)]
      rw [hl]
      exact layL_cut s0 from_ t n z F K hz hK (k + 1) _ (by omega) (by omega) hd h'
    · refine .inr (.inr ⟨_, k + 2, ?_, by omega, ⟨h.ok.die, h.size, h.len, h.sure, h.dirty⟩⟩)
      rw [layL, e, if_pos (by simp)]
end Go.Proofs.YtekolejeliefdaaGreat
