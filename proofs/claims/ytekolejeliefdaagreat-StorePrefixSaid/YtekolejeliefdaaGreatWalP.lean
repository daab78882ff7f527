/- The log, plain: what a log holds is what is read when it is opened; commits; resets. No program in sight. -/
import Derived.Test.YtekolejeliefdaaGreatWalO
set_option linter.unusedVariables false
set_option linter.unusedSimpArgs false
namespace Go.Proofs.YtekolejeliefdaaGreat
open Go.RowKit

/-- Frames, one behind the other, from a place and a number on. -/
def Frames (s : DS) (t : Nat) : List (List (List UInt8)) → Nat → Nat → Nat → Nat → Prop
  | [], a, n, a', n' => a = a' ∧ n = n'
  | rs :: bs, a, n, a', n' => FrameAt s (t % 2) a n t rs ∧ (∀ r ∈ rs, r.length ≤ 1048576) ∧ Frames s t bs (a + takeF s rs) (n + 1) a' n'
/-- What stands at a sector's end: a turn, a number. -/
def tail1 (s : DS) (x : List UInt8) : Nat := getF ((x.drop (s.size - 16)).take 8)
def tail2 (s : DS) (x : List UInt8) : Nat := getF ((x.drop (s.size - 16)).drop 8)
theorem takeF_pos {s : DS} {rs : List (List UInt8)} : 1 ≤ takeF s rs := secs_pos (by omega)
theorem Frames.le {s : DS} {t : Nat} : ∀ {bs : List (List (List UInt8))} {a n a' n' : Nat}, Frames s t bs a n a' n' → a + bs.length ≤ a' ∧ n + bs.length = n' ∧ (bs ≠ [] → a' ≤ s.sure.length / 2)
  | [], a, n, a', n', h => by
    obtain ⟨rfl, rfl⟩ := h
    exact ⟨Nat.le_refl _, rfl, fun h => absurd rfl h⟩
  | rs :: bs, a, n, a', n', ⟨h1, _, h2⟩ => by
    have ih := h2.le
    have hp := takeF_pos (s := s) (rs := rs)
    refine ⟨by simp; omega, by simp; omega, fun _ => ?_⟩
    by_cases hb : bs = []
    · subst hb
      obtain ⟨rfl, _⟩ := h2
      exact h1.1
    · exact ih.2.2 hb
theorem Frames.keep {s s' : DS} {t : Nat} (hz : s'.size = s.size) (hn : s'.sure.length = s.sure.length) : ∀ {bs : List (List (List UInt8))} {a n a' n' : Nat},
    (∀ j, j < a' → s'.last (t % 2 * (s.sure.length / 2) + j) = s.last (t % 2 * (s.sure.length / 2) + j)) → Frames s t bs a n a' n' → Frames s' t bs a n a' n'
  | [], _, _, _, _, _, h => h
  | rs :: bs, a, n, a', n', hk, ⟨h1, h2, h3⟩ => by
    have hle := h3.le
    have ht : takeF s' rs = takeF s rs := by unfold takeF; rw [hz]
    refine ⟨⟨by rw [hz, hn]; exact h1.1, fun i hi => ?_⟩, h2, by rw [ht]; exact Frames.keep hz hn hk h3⟩
    rw [hz] at hi ⊢
    rw [hn, hk (a + i) (by unfold takeF at hle; omega)]
    exact h1.2 i hi
theorem Frames.snoc {s : DS} {t : Nat} {rs : List (List UInt8)} : ∀ {bs : List (List (List UInt8))} {a n a' n' : Nat}, Frames s t bs a n a' n' → FrameAt s (t % 2) a' n' t rs → (∀ r ∈ rs, r.length ≤ 1048576) → Frames s t (bs ++ [rs]) a n (a' + takeF s rs) (n' + 1)
  | [], a, n, a', n', h, hf, hr => by
    obtain ⟨rfl, rfl⟩ := h
    exact ⟨hf, hr, rfl, rfl⟩
  | q :: bs, a, n, a', n', ⟨h1, h2, h3⟩, hf, hr => ⟨h1, h2, h3.snoc hf hr⟩
theorem nextF_frame {s : DS} {t a n : Nat} {rs : List (List UInt8)} (hd : s.dead = false) (hok : s.Ok) (hz : 128 ≤ s.size) (ht : t < 4611686018427387904) (hn : n < 4611686018427387904) (hf : FrameAt s (t % 2) a n t rs) (hr : ∀ r ∈ rs, r.length ≤ 1048576) :
    nextF s t a n = .ok (rs, a + takeF s rs) := by
  have hb : (bodyF rs).length ≤ 2048 * 4096 := by
    have h1 := secs_mul (z := s.size - 16) (n := 32 + (bodyF rs).length) (by omega)
    have h2 : secsF (s.size - 16) (32 + (bodyF rs).length) * (s.size - 16) ≤ 2048 * 4096 := Nat.mul_le_mul (by have := hf.1; have := hok.n2; omega) (by have := hok.z2; omega)
    omega
  unfold nextF
  rw [openF_frame hd hz (by omega) hf (by omega) (by omega) (fun r hr' => by have := hr r hr'; omega) (by omega)]
  simp only [if_true]
  rfl
theorem Frames.chain {s : DS} {t : Nat} (hd : s.dead = false) (hok : s.Ok) (hz : 128 ≤ s.size) (ht : t < 4611686018427387904) : ∀ {bs : List (List (List UInt8))} {a n a' n' : Nat} (f : Nat), n' < 4611686018427387904 → Frames s t bs a n a' n' → chainF s t (f + bs.length) a n = preF bs.flatten (chainF s t f a' n')
  | [], a, n, a', n', f, _, h => by
    obtain ⟨rfl, rfl⟩ := h
    simp only [List.length_nil, Nat.add_zero, List.flatten_nil]
    cases chainF s t f a n <;> rfl
  | rs :: bs, a, n, a', n', f, hn, ⟨h1, h2, h3⟩ => by
    have hle := h3.le
    rw [List.length_cons, ← Nat.add_assoc, chainF_next (nextF_frame hd hok hz ht (by omega) h1 h2), h3.chain hd hok hz ht f hn, preF_pre]
    rfl
theorem moreAt_live {s : DS} {side : Nat} (hd : s.dead = false) (hs : side ≤ 1) : ∀ (k a : Nat) (x : Int), moreAt s side k a = .error x → x = 0
  | 0, a, x, h => by cases h
  | k + 1, a, x, h => by
    rw [moreAt] at h
    by_cases ha : a < s.sure.length / 2
    · rw [secAt_live hd hs ha] at h
      simp only at h
      split at h
      · rename_i y hy
        cases h
        exact moreAt_live hd hs k (a + 1) _ hy
      · cases h
    · unfold secAt at h
      rw [if_neg ha] at h
      simp only [Except.error.injEq] at h
      exact h.symm
theorem openF_live {s : DS} {side a n : Nat} {x : Int} (hd : s.dead = false) (hs : side ≤ 1) (h : openF s side a n = .error x) : x = 0 := by
  unfold openF at h
  by_cases ha : a < s.sure.length / 2
  · rw [secAt_live hd hs ha] at h
    simp only at h
    split at h
    · cases h; rfl
    · split at h
      · cases h; rfl
      · split at h
        · cases h; rfl
        · split at h
          · rename_i y hy
            cases h
            exact moreAt_live hd hs _ _ _ hy
          · split at h
            · cases h; rfl
            · cases h
  · unfold secAt at h
    rw [if_neg ha] at h
    simp only [Except.error.injEq] at h
    exact h.symm
theorem openF_tail {s : DS} {side a n : Nat} {r : Nat × List (List UInt8) × Nat} (hd : s.dead = false) (hs : side ≤ 1) (h : openF s side a n = .ok r) : a < s.sure.length / 2 ∧ tail1 s (s.last (side * (s.sure.length / 2) + a)) = r.1 ∧ tail2 s (s.last (side * (s.sure.length / 2) + a)) = (n + 1) % 18446744073709551616 := by
  unfold openF at h
  by_cases ha : a < s.sure.length / 2
  · rw [secAt_live hd hs ha] at h
    simp only at h
    split at h
    · cases h
    · split at h
      · cases h
      · rename_i hq
        split at h
        · cases h
        · split at h
          · cases h
          · split at h
            · cases h
            · simp only [Except.ok.injEq] at h
              subst h
              have hq2 := Classical.not_not.1 hq
              exact ⟨ha, hq2.1, hq2.2⟩
  · unfold secAt at h
    rw [if_neg ha] at h
    cases h

/-- A log that holds these records, on a disk with power. -/
structure Inv (s : DS) (l : LS) (out : List (List UInt8)) : Prop where
  live : Live s
  n16 : 16 ≤ s.sure.length
  z128 : 128 ≤ s.size
  und : l.undone = []
  turn : l.turn < 4611686018427387904
  next : l.next < 4611686018427387904
  at_ : l.at_ ≤ s.sure.length / 2
  count : l.count = out.length
  tails : ∀ i, i < s.sure.length → tail1 s (s.last i) ≤ l.turn ∧ (tail1 s (s.last i) = l.turn → tail2 s (s.last i) ≤ l.next)
  frames : ∃ bs, Frames s l.turn bs 0 0 l.at_ l.next ∧ out = bs.flatten
  first : l.next = 0 → l.turn = 0
  clean : s.dirty = []

section
variable {s : DS} {l : LS} {out : List (List UInt8)}
theorem side_lt {N side a : Nat} (hs : side ≤ 1) (ha : a < N / 2) : side * (N / 2) + a < N := by
  have h1 : side * (N / 2) ≤ 1 * (N / 2) := Nat.mul_le_mul_right _ hs
  omega
theorem Inv.stop (h : Inv s l out) : nextF s l.turn l.at_ l.next = .error 0 := by
  unfold nextF
  cases ho : openF s (l.turn % 2) l.at_ l.next with
  | error x =>
    have := openF_live h.live.dead (by omega) ho
    subst this
    rfl
  | ok r =>
    simp only
    by_cases hr : r.1 = l.turn
    · exfalso
      obtain ⟨h1, h2, h3⟩ := openF_tail h.live.dead (by omega) ho
      have h4 := (h.tails _ (side_lt (by omega) h1)).2 (h2.trans hr)
      have := h.next
      omega
    · rw [if_neg hr]
theorem Inv.side (h : Inv s l out) (side : Nat) (hs : side ≤ 1) : (side = l.turn % 2 ∧ 0 < l.next ∧ sideF s side = .ok l.turn) ∨ sideF s side = .error 0 ∧ (side = l.turn % 2 → l.next = 0) ∨ (side ≠ l.turn % 2 ∧ ∃ t, t < l.turn ∧ sideF s side = .ok t) := by
  have hcase : ∀ r, openF s side 0 0 = .ok r → r.1 % 2 = side → r.1 ≤ l.turn ∧ (r.1 = l.turn → 0 < l.next) := by
    intro r ho hr
    obtain ⟨h1, h2, h3⟩ := openF_tail h.live.dead hs ho
    have h4 := h.tails _ (side_lt hs h1)
    rw [h2, h3] at h4
    exact ⟨h4.1, fun e => by have := h4.2 e; omega⟩
  by_cases hsd : side = l.turn % 2
  · obtain ⟨bs, hf, _⟩ := h.frames
    cases bs with
    | nil =>
      obtain ⟨h1, h2⟩ := hf
      refine .inr (.inl ⟨?_, fun _ => h2.symm⟩)
      unfold sideF
      cases ho : openF s side 0 0 with
      | error x => rw [openF_live h.live.dead hs ho]
      | ok r =>
        simp only
        by_cases hr : r.1 % 2 = side
        · exfalso
          obtain ⟨h4, h5⟩ := hcase r ho hr
          have h6 := h.first h2.symm
          have := h5 (by omega)
          omega
        · rw [if_neg hr]
    | cons rs bs =>
      obtain ⟨h1, h2, h3⟩ := hf
      have hn := h3.le
      have hnx := h.next
      refine .inl ⟨hsd, by omega, ?_⟩
      have hnf := nextF_frame h.live.dead h.live.ok h.z128 h.turn (by omega) h1 h2
      unfold nextF at hnf
      rw [← hsd] at hnf
      unfold sideF
      cases ho : openF s side 0 0 with
      | error x => rw [ho] at hnf; cases hnf
      | ok r =>
        rw [ho] at hnf
        simp only at hnf ⊢
        by_cases hr : r.1 = l.turn
        · rw [hr, if_pos hsd.symm]
        · rw [if_neg hr] at hnf
          cases hnf
  · refine .inr ?_
    unfold sideF
    cases ho : openF s side 0 0 with
    | error x => rw [openF_live h.live.dead hs ho]; exact .inl ⟨rfl, fun e => absurd e hsd⟩
    | ok r =>
      simp only
      by_cases hr : r.1 % 2 = side
      · rw [if_pos hr]
        obtain ⟨h4, h5⟩ := hcase r ho hr
        refine .inr ⟨hsd, r.1, ?_, rfl⟩
        have : r.1 ≠ l.turn := by rintro e; exact hsd (by rw [← e]; exact hr.symm)
        omega
      · rw [if_neg hr]
        exact .inl ⟨rfl, fun e => absurd e hsd⟩
theorem later_yes {t u : Nat} (h : u < t) (ht : t < 4611686018427387904) : later t u = true := by
  unfold later
  rw [IntKind.wrap_u64, Int.emod_eq_of_lt (by omega) (by omega)]
  unfold wrap64
  simp
  omega
theorem later_no {t u : Nat} (h : t < u) (ht : u < 4611686018427387904) : later t u = false := by
  unfold later
  rw [IntKind.wrap_u64]
  have : ((t : Int) - (u : Int)) % 18446744073709551616 = (t : Int) - (u : Int) + 18446744073709551616 := by omega
  rw [this]
  unfold wrap64
  simp
  omega
theorem Inv.begins (h : Inv s l out) : beginF s 0 = .ok l.turn := by
  have h0 := h.side 0 (by omega)
  have h1 := h.side 1 (by omega)
  have ht := h.turn
  have hfirst := h.first
  unfold beginF
  simp only [beginP]
  rcases h0 with ⟨a1, a2, a3⟩ | ⟨a1, a2⟩ | ⟨a1, t', a2, a3⟩
  · have e0 : beginStep s 0 (0, false) = .ok (l.turn, true) := by simp [beginStep, a3]
    rw [e0]
    rcases h1 with ⟨b1, b2, b3⟩ | ⟨b1, b2⟩ | ⟨b1, t'', b2, b3⟩
    · omega
    · simp [beginStep, b1]
    · simp [beginStep, b3, later_no b2 ht]
  · have e0 : beginStep s 0 (0, false) = .ok (0, false) := by simp [beginStep, a1]
    rw [e0]
    rcases h1 with ⟨b1, b2, b3⟩ | ⟨b1, b2⟩ | ⟨b1, t'', b2, b3⟩
    · simp [beginStep, b3]
    · have hn : l.next = 0 := by
        rcases (by omega : 0 = l.turn % 2 ∨ 1 = l.turn % 2) with e | e
        · exact a2 e
        · exact b2 e
      simp [beginStep, b1, hfirst hn]
    · have hn : l.next = 0 := a2 (by omega)
      have := hfirst hn
      omega
  · have e0 : beginStep s 0 (0, false) = .ok (t', true) := by simp [beginStep, a3]
    rw [e0]
    rcases h1 with ⟨b1, b2, b3⟩ | ⟨b1, b2⟩ | ⟨b1, t'', b2, b3⟩
    · simp [beginStep, b3, later_yes a2 ht]
    · have hn : l.next = 0 := b2 (by omega)
      have := hfirst hn
      omega
    · omega
/-- What a log holds is what is read when its disk is opened. -/
theorem Inv.recover (h : Inv s l out) : recoverF s = .ok (l, out) := by
  obtain ⟨bs, hf, hout⟩ := h.frames
  have hle := hf.le
  have hat := h.at_
  have hch := hf.chain h.live.dead h.live.ok h.z128 h.turn (s.sure.length / 2 + 1 - bs.length) h.next
  have e1 : s.sure.length / 2 + 1 - bs.length + bs.length = s.sure.length / 2 + 1 := by omega
  have e2 : s.sure.length / 2 + 1 - bs.length = s.sure.length / 2 - bs.length + 1 := by omega
  rw [e1, e2, chainF_end h.stop] at hch
  have h1 := h.n16
  have h2 := h.z128
  unfold recoverF
  rw [if_neg (by omega), h.begins]
  simp only [hch, preF, List.append_nil, ← hout]
  have hc := h.count
  have hu := h.und
  cases l
  simp_all
end
end Go.Proofs.YtekolejeliefdaaGreat
