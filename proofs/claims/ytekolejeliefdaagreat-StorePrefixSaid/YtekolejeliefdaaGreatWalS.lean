/- The log, plain: behind a crash a commit is there whole, or not at all. No program in sight. -/
import Derived.Test.YtekolejeliefdaaGreatWalR
set_option linter.unusedVariables false
set_option linter.unusedSimpArgs false
namespace Go.Proofs.YtekolejeliefdaaGreat
open Go.RowKit

theorem writeF_fit {s : DS} {t n a : Nat} {rs : List (List UInt8)} (hz : 128 ≤ s.size) (ha : a ≤ s.sure.length / 2) (hl : rs.any isLong = false) (hf : ¬ fullF s a rs) :
    a + takeF s rs ≤ s.sure.length / 2 ∧ writeF s t n a rs = ((layF (t % 2 * (s.sure.length / 2) + a) t n (frameF t n rs) s).1, a + takeF s rs, (layF (t % 2 * (s.sure.length / 2) + a) t n (frameF t n rs) s).2.1, (layF (t % 2 * (s.sure.length / 2) + a) t n (frameF t n rs) s).2.2) := by
  have hM : (s.sure.length / 2 - a) * (s.size - 16) ≤ s.sure.length * s.size := Nat.mul_le_mul (by omega) (by omega)
  have hfit : secsF (s.size - 16) (32 + (bodyF rs).length) ≤ s.sure.length / 2 - a := by
    refine secs_fit (by omega) ?_
    unfold fullF at hf
    omega
  refine ⟨by unfold takeF; omega, ?_⟩
  unfold writeF
  rw [if_neg (by rw [hl]; simp), if_neg (by unfold fullF at hf; omega)]
  rfl
theorem dead_cut {s : DS} (h : s.Ok) (keep : Nat) (hd : ∀ j, dget s.dirty j = none) (j : Nat) : (s.crash keep (-1) 0).last j = s.sure.getD j [] := by
  rcases crash_at h keep j with h1 | h1
  · exact h1
  · rw [hd j] at h1
    cases h1
/-- What a commit that may be cut off leaves behind a crash. -/
theorem commit_cut {s : DS} {l : LS} {out : List (List UInt8)} (h : Inv s l out) (hnx : l.next + 1 < 4611686018427387904) (rs : List (List UInt8)) (hl : rs.any isLong = false) (hf : ¬ fullF s l.at_ rs) (c : Int) (hc : c ≤ 9223372036854775807) :
    ∃ s' l' e, commitF (s.cutAt c) l rs = (s', l', e) ∧ s'.Ok ∧ s'.size = s.size ∧ s'.sure.length = s.sure.length ∧ (e = 0 → s'.dead = false) ∧ ∀ keep, ∃ l2, (e = 0 ∧ Inv (s'.crash keep (-1) 0) l2 (out ++ rs)) ∨ (e ≠ 0 ∧ (Inv (s'.crash keep (-1) 0) l2 out ∨ Inv (s'.crash keep (-1) 0) l2 (out ++ rs))) := by
  obtain ⟨s1, hs1⟩ : ∃ s1, s.cutAt c = s1 := ⟨_, rfl⟩
  have hz1 : s1.size = s.size := by rw [← hs1]; rfl
  have hn1 : s1.sure.length = s.sure.length := by rw [← hs1]; rfl
  have hq1 : ∀ j, s1.sure.getD j [] = s.sure.getD j [] := by intro j; rw [← hs1]; rfl
  have hd1 : s1.dead = false := by rw [← hs1]; exact h.live.dead
  have hdy : s1.dirty = [] := by rw [← hs1]; exact h.clean
  have hok1 : s1.Ok := by rw [← hs1]; exact h.live.ok.cutTo (max c 0) (by omega) (by omega)
  have hlast : ∀ j, s.last j = s.sure.getD j [] := by intro j; unfold DS.last; rw [h.clean]; rfl
  have hT : takeF s1 rs = takeF s rs := by unfold takeF; rw [hz1]
  have hz := h.z128
  have hat := h.at_
  have htn := h.turn
  have hnn := h.next
  obtain ⟨hfit, hw⟩ := writeF_fit (s := s1) (t := l.turn) (n := l.next) (a := l.at_) (rs := rs) (by omega) (by rw [hn1]; exact hat) hl (by unfold fullF at hf ⊢; rw [hn1, hz1]; exact hf)
  rw [hn1, hT] at hfit
  rw [hn1, hT] at hw
  have hside : l.turn % 2 * (s.sure.length / 2) ≤ 1 * (s.sure.length / 2) := Nat.mul_le_mul_right _ (by omega)
  obtain ⟨fr, hfr⟩ : ∃ fr, l.turn % 2 * (s.sure.length / 2) + l.at_ = fr := ⟨_, rfl⟩
  rw [hfr] at hw
  obtain ⟨F, hF⟩ : ∃ F, frameF l.turn l.next rs = F := ⟨_, rfl⟩
  have hFl := frameF_length l.turn l.next rs
  rw [hF] at hw hFl
  have hsc : secsF (s.size - 16) F.length = takeF s rs := by unfold takeF; rw [hFl]
  have hlay : layF fr l.turn l.next F s1 = if (layL fr l.turn l.next (s.size - 16) F (takeF s rs) s1).2.1 ≠ 0 then layL fr l.turn l.next (s.size - 16) F (takeF s rs) s1 else ((layL fr l.turn l.next (s.size - 16) F (takeF s rs) s1).1.flush.1, (layL fr l.turn l.next (s.size - 16) F (takeF s rs) s1).1.flush.2, decide ((layL fr l.turn l.next (s.size - 16) F (takeF s rs) s1).1.flush.2 ≠ 0)) := by
    unfold layF
    simp only [hz1, hsc]
  have hpos := takeF_pos (s := s) (rs := rs)
  obtain ⟨K, hK⟩ : ∃ K, takeF s rs = K := ⟨_, rfl⟩
  rw [hK] at hw hlay hfit hpos
  have hstart : Laid s s1 fr l.turn l.next (s.size - 16) F K K := ⟨hok1, hz1, hn1, hq1, fun j => by rw [hdy, if_neg (by omega)]; rfl⟩
  have hcom : ∀ s' e b, layF fr l.turn l.next F s1 = (s', e, b) → ∃ l', commitF s1 l rs = (s', l', e) := by
    intro s' e b he
    have hw2 : writeF s1 l.turn l.next l.at_ rs = (s', l.at_ + K, e, b) := by rw [hw, he]
    unfold commitF
    simp only [hw2]
    split
    · rename_i h0
      exact ⟨_, by rw [h0]⟩
    · exact ⟨_, rfl⟩
  -- behind a crash: the frame is there, or what was there is
  have hmore : ∀ (s3 : DS), Live s3 → s3.dirty = [] → s3.size = s.size → s3.sure.length = s.sure.length → (∀ j, s3.last j = if fr ≤ j ∧ j < fr + K then secF (s.size - 16) l.turn l.next F (j - fr) else s.last j) →
      Inv s3 { l with next := l.next + 1, at_ := l.at_ + K, count := l.count + rs.length, undone := [] } (out ++ rs) := by
    intro s3 q1 q2 q3 q4 q5
    have := h.more (s' := s3) hnx (isLong_small hl) (by rw [hK]; exact hfit) q1 q2 q3 q4 (by rw [hfr, hF, hK]; exact q5)
    rw [hK] at this
    exact this
  have hmix : ∀ (s3 : DS), Live s3 → s3.dirty = [] → s3.size = s.size → s3.sure.length = s.sure.length → (∀ j, s3.last j = s.last j ∨ (fr + 1 ≤ j ∧ j < fr + K ∧ s3.last j = secF (s.size - 16) l.turn l.next F (j - fr))) → Inv s3 l out := by
    intro s3 q1 q2 q3 q4 q5
    refine h.mix q1 q2 q3 q4 (fun j hj => ?_)
    rcases q5 j with e | ⟨e1, e2, e3⟩
    · exact .inl e
    · refine .inr ⟨fun i hi => by omega, ?_, ?_⟩
      · rw [e3, tail1_sec (by omega), if_neg (by omega)]
      · rw [e3, tail2_sec (by omega), if_neg (by omega)]
  rw [hs1]
  have hcl := fun (s3 : DS) (q : s3.Ok) (keep : Nat) => crash_live q keep
  rcases layL_cut s fr l.turn l.next (s.size - 16) F K (by omega) (by omega) K s1 hpos (Nat.le_refl _) hd1 hstart with ⟨s2, e2, d2, g2, r2⟩ | ⟨s2, e2, g2, r2⟩ | ⟨s2, lo, e2, hlo, g2⟩
  · rw [e2] at hlay
    simp only at hlay
    rw [if_neg (by simp)] at hlay
    rcases flush_or g2.ok d2 with ⟨c', c1, c2, e3⟩ | e3
    · rw [e3] at hlay
      obtain ⟨l', hco⟩ := hcom _ _ _ hlay
      have hok3 := (g2.ok.settled (fun _ _ l => l) (fun _ _ _ _ h => h)).cutTo c' c1 c2
      refine ⟨_, l', 0, hco, hok3, g2.size, (settled_len _ _).trans g2.len, fun _ => d2, fun keep => ⟨_, .inl ⟨rfl, hmore _ (hcl _ hok3 keep).1 (hcl _ hok3 keep).2.1 g2.size ((hcl _ hok3 keep).2.2.2.trans ((settled_len _ _).trans g2.len)) (fun j => ?_)⟩⟩⟩
      rw [dead_cut hok3 keep (fun j => rfl)]
      have q := last_flush g2.ok j
      have q2 : (s2.settled (fun _ _ l => l)).last j = (s2.settled (fun _ _ l => l)).sure.getD j [] := by simp [DS.settled, DS.last, dget]
      show (s2.settled (fun _ _ l => l)).sure.getD j [] = _
      rw [← q2, q]
      show (dget s2.dirty j).getD (s2.sure.getD j []) = _
      rw [r2 j, g2.sure j]
      by_cases hj : j = fr
      · subst hj
        rw [if_pos rfl, Option.getD_some, if_pos (by omega), Nat.sub_self]
      · rw [if_neg hj, Option.getD_none]
        by_cases hj2 : fr + 1 ≤ j ∧ j < fr + K
        · rw [if_pos hj2, if_pos (by omega)]
        · rw [if_neg hj2, if_neg (by omega)]
          exact (hlast j).symm
    · rw [e3] at hlay
      obtain ⟨l', hco⟩ := hcom _ _ _ hlay
      have hok3 := g2.ok.die
      refine ⟨_, l', 32, hco, hok3, g2.size, g2.len, fun h => absurd h (by decide), fun keep => ?_⟩
      have hj : ∀ j, j ≠ fr → (({ s2 with dead := true } : DS).crash keep (-1) 0).last j = if fr + 1 ≤ j ∧ j < fr + K then secF (s.size - 16) l.turn l.next F (j - fr) else s.last j := by
        intro j hj
        rcases crash_at hok3 keep j with q | q
        · rw [q]
          show s2.sure.getD j [] = _
          rw [g2.sure j, hlast j]
        · have := r2 j
          rw [if_neg hj] at this
          have q' : dget s2.dirty j = some _ := q
          rw [this] at q'
          cases q'
      rcases crash_at hok3 keep fr with q | q
      · refine ⟨l, .inr ⟨by decide, .inl (hmix _ (hcl _ hok3 keep).1 (hcl _ hok3 keep).2.1 g2.size ((hcl _ hok3 keep).2.2.2.trans g2.len) (fun j => ?_))⟩⟩
        by_cases hjf : j = fr
        · subst hjf
          refine .inl ?_
          rw [q]
          show s2.sure.getD j [] = _
          rw [g2.sure j, if_neg (by omega), hlast j]
        · rw [hj j hjf]
          by_cases hj2 : fr + 1 ≤ j ∧ j < fr + K
          · rw [if_pos hj2]
            exact .inr ⟨hj2.1, hj2.2, rfl⟩
          · rw [if_neg hj2]
            exact .inl rfl
      · refine ⟨_, .inr ⟨by decide, .inr (hmore _ (hcl _ hok3 keep).1 (hcl _ hok3 keep).2.1 g2.size ((hcl _ hok3 keep).2.2.2.trans g2.len) (fun j => ?_))⟩⟩
        by_cases hjf : j = fr
        · subst hjf
          have q' : dget s2.dirty j = some _ := q
          rw [r2 j, if_pos rfl] at q'
          rw [if_pos (by omega), Nat.sub_self]
          exact (Option.some.inj q').symm
        · rw [hj j hjf]
          by_cases hj2 : fr + 1 ≤ j ∧ j < fr + K
          · rw [if_pos hj2, if_pos (by omega)]
          · rw [if_neg hj2, if_neg (by omega)]
  · rw [e2] at hlay
    simp only at hlay
    rw [if_pos (by simp)] at hlay
    obtain ⟨l', hco⟩ := hcom _ _ _ hlay
    refine ⟨s2, l', 32, hco, g2.ok, g2.size, g2.len, fun h => absurd h (by decide), fun keep => ⟨l, .inr ⟨by decide, .inl (hmix _ (hcl _ g2.ok keep).1 (hcl _ g2.ok keep).2.1 g2.size ((hcl _ g2.ok keep).2.2.2.trans g2.len) (fun j => ?_))⟩⟩⟩
    rw [dead_cut g2.ok keep (fun j => by rw [r2]; rfl), g2.sure j]
    by_cases hj2 : fr + 1 ≤ j ∧ j < fr + K
    · rw [if_pos hj2]
      exact .inr ⟨hj2.1, hj2.2, rfl⟩
    · rw [if_neg hj2]
      exact .inl (hlast j).symm
  · rw [e2] at hlay
    simp only at hlay
    rw [if_pos (by simp)] at hlay
    obtain ⟨l', hco⟩ := hcom _ _ _ hlay
    refine ⟨s2, l', 32, hco, g2.ok, g2.size, g2.len, fun h => absurd h (by decide), fun keep => ⟨l, .inr ⟨by decide, .inl (hmix _ (hcl _ g2.ok keep).1 (hcl _ g2.ok keep).2.1 g2.size ((hcl _ g2.ok keep).2.2.2.trans g2.len) (fun j => ?_))⟩⟩⟩
    rcases crash_at g2.ok keep j with q | q
    · rw [q, g2.sure j]
      exact .inl (hlast j).symm
    · rw [g2.dirty j] at q
      split at q
      · rename_i hj
        exact .inr ⟨by omega, hj.2, (Option.some.inj q).symm⟩
      · cases q
end Go.Proofs.YtekolejeliefdaaGreat
