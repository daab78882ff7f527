/- The log: the next frame of a side. -/
import Derived.Test.YtekolejeliefdaaGreatWalJ
set_option linter.unusedVariables false
set_option linter.unusedSimpArgs false
namespace Go.Proofs.YtekolejeliefdaaGreat
open Go.RowKit
variable {X : Nat → Prop}

theorem recsF_count : ∀ (f : Nat) (xs : List UInt8) (rs : List (List UInt8)), recsF f xs = some rs → 4 * rs.length ≤ xs.length
  | 0, xs, rs, h => by
    simp only [recsF, Option.some.injEq] at h
    subst h
    simp
  | f + 1, xs, rs, h => by
    rw [recsF] at h
    split at h
    · simp only [Option.some.injEq] at h
      subst h
      simp
    · split at h
      · cases h
      · split at h
        · cases h
        · rw [Option.map_eq_some_iff] at h
          obtain ⟨q, hq, rfl⟩ := h
          have := recsF_count f _ q hq
          rw [List.length_drop] at this
          rw [List.length_cons]
          omega
/-- The next frame of a turn: its records, the place behind it. -/
def nextF (s : DS) (t a n : Nat) : Except Int (List (List UInt8) × Nat) :=
  match openF s (t % 2) a n with
  | .error x => .error x
  | .ok r => if r.1 = t then .ok r.2 else .error 0
theorem openF_ok {s : DS} {side a n : Nat} {r : Nat × List (List UInt8) × Nat} (hz : 128 ≤ s.size) (h : openF s side a n = .ok r) : a + 1 ≤ r.2.2 ∧ r.2.2 ≤ s.sure.length / 2 ∧ 4 * r.2.1.length ≤ (r.2.2 - a) * (s.size - 16) := by
  unfold openF at h
  split at h
  · cases h
  · rename_i x hx
    simp only at h
    split at h
    · cases h
    · split at h
      · cases h
      · split at h
        · cases h
        · rename_i hle
          split at h
          · cases h
          · split at h
            · cases h
            · rename_i rs hrs
              simp only [Except.ok.injEq] at h
              subst h
              have h1 := recsF_count _ _ _ hrs
              have hal : a < s.sure.length / 2 := by
                unfold secAt at hx
                split at hx
                · assumption
                · cases hx
              obtain ⟨N, hN⟩ : ∃ N, getF ((List.drop 24 (List.take (s.size - 16) x)).take 8) = N := ⟨_, rfl⟩
              rw [hN] at hle h1 ⊢
              rw [List.length_take] at h1
              obtain ⟨z, hzz⟩ : ∃ z, s.size - 16 = z := ⟨_, rfl⟩
              rw [hzz] at hle ⊢
              have h2 : 1 ≤ secsF z (32 + N) := secs_pos (by omega)
              have h3 : 1 * 112 ≤ (s.sure.length / 2 - a) * z := Nat.mul_le_mul (by omega) (by omega)
              have h4 := secs_fit (z := z) (n := 32 + N) (x := s.sure.length / 2 - a) (by omega) (by omega)
              show a + 1 ≤ a + secsF z (32 + N) ∧ a + secsF z (32 + N) ≤ s.sure.length / 2 ∧ 4 * rs.length ≤ (a + secsF z (32 + N) - a) * z
              refine ⟨by omega, by omega, ?_⟩
              have h5 : a + secsF z (32 + N) - a = secsF z (32 + N) := by omega
              simp only [h5]
              have h6 : 32 + N ≤ secsF z (32 + N) * z := by
                have h7 := Nat.div_add_mod (32 + N) z
                unfold secsF
                have h8 : (32 + N) % z < z := Nat.mod_lt _ (by omega)
                rw [Nat.add_mul, Nat.mul_comm]
                rcases Nat.eq_zero_or_pos ((32 + N) % z) with h9 | h9
                · omega
                · have : min ((32 + N) % z) 1 = 1 := by omega
                  rw [this]
                  omega
              omega
/-- What reading the next frame comes to. -/
def NextPost (o : Except Int (List (List UInt8) × Nat)) (b8 b9 : Nat) (w : World) (e : Ending) (w' : World) : Prop :=
  (match o with
  | .ok r => e = .returned (.tuple #[]) ∧ ∃ v cs, w'.heap[b8]? = some (.cells #[v] 108 (0, 0)) ∧ w'.heap[b9]? = some (.cells #[.int .i64 (r.2 : Nat)] 3 (0, 0)) ∧ w'.ownsRow w.heap.size 114 1 v r.1.length cs ∧ RecsAt w' cs r.1
  | .error x => e = .panicked [{ v := stopV x, recovered := false }]) ∧ Ext (fun k => k = b8 ∨ k = b9) w w'

section
variable {w : World} {lp um p g m : Nat} {l : LS} {s : DS}
set_option maxRecDepth 100000 in
set_option maxHeartbeats 2000000 in
theorem next1_any (h : LogAt X w lp um l p g m s) (hz : 128 ≤ s.size) (ha : l.at_ ≤ 4096) (hn : l.next < 18446744073709551616) {b5 b8 b9 : Nat} {v8 v9 : Value} (h5 : w.heap[b5]? = some (.cells #[.pointer (some ⟨lp, 0, none⟩)] 115 (0, 0)))
    (h8 : w.heap[b8]? = some (.cells #[v8] 108 (0, 0))) (h9 : w.heap[b9]? = some (.cells #[v9] 3 (0, 0))) :
    Calls Tryz.prog 85 #[.pointer (some ⟨b5, 0, none⟩), .pointer (some ⟨b8, 0, none⟩), .pointer (some ⟨b9, 0, none⟩)] w fun e w' => NextPost (nextF s l.turn l.at_ l.next) b8 b9 w e w' := by
  obtain ⟨S, hS⟩ : ∃ S, l.turn % 2 = S := ⟨_, rfl⟩
  have hSi : (l.turn : Int).tmod 2 = (S : Int) := by rw [Int.tmod_eq_emod_of_nonneg (by omega)]; omega
  have hSw : IntKind.i64.wrap (S : Int) = (S : Int) := IntWalk.i64_in _ (by omega)
  have ho := open_any h.drew hz S l.at_ l.next (by omega) ha hn
  have c5 := cell_of_block h5 0
  have c8 := cell_of_block h8 0
  have c9 := cell_of_block h9 0
  have k1 := cell_of_block h.blk 1
  have k2 := cell_of_block h.blk 2
  have k3 := cell_of_block h.blk 3
  simp at c5 c8 c9 k1 k2 k3
  have hne : b8 ≠ b9 := by
    rintro rfl
    rw [h8] at h9
    simp at h9
  have hnf : nextF s l.turn l.at_ l.next = match openF s S l.at_ l.next with
    | .error x => .error x
    | .ok r => if r.1 = l.turn then .ok r.2 else .error 0 := by unfold nextF; rw [hS]
  have hS0 : w.drew.cell? ⟨b5, 0, none⟩ = some (.pointer (some ⟨lp, 0, none⟩)) ∧ w.drew.cell? ⟨lp, 1, none⟩ = some (.int .u64 l.turn) ∧ w.drew.cell? ⟨lp, 2, none⟩ = some (.int .u64 l.next) ∧ w.drew.cell? ⟨lp, 3, none⟩ = some (.int .i64 l.at_) := ⟨c5, k1, k2, k3⟩
  cases hx : openF s S l.at_ l.next with
  | error x =>
    rw [hx] at ho hnf
    rw [hnf]
    have HO := Lib.hid ho
    clear ho hx hnf h h5 h8 h9 c5 k1 k2 k3 hS
    go_enter Tryz.func85, Tryz.ntmps85
    go_wp2_with fail
    refine region_X (fun W => W.cell? ⟨b5, 0, none⟩ = some (.pointer (some ⟨lp, 0, none⟩)) ∧ W.cell? ⟨lp, 1, none⟩ = some (.int .u64 l.turn) ∧ W.cell? ⟨lp, 2, none⟩ = some (.int .u64 l.next) ∧ W.cell? ⟨lp, 3, none⟩ = some (.int .i64 l.at_)) (by kernel_rfl) ?_
    simp only [List.length_cons, List.length_nil, Nat.reduceAdd]
    refine AnyX.take 0 rfl (by kernel_rfl) (fun _ _ _ h => h) hS0 rfl (by rintro W ⟨s0, s1, s2, s3⟩; go_simp; rfl) ?_; simp only [Act.put, List.setIfInBounds_toArray, List.set_cons_succ, List.set_cons_zero]
    refine AnyX.take 1 rfl (by kernel_rfl) (fun _ _ _ h => h) hS0 rfl (by rintro W ⟨s0, s1, s2, s3⟩; go_simp; rfl) ?_; simp only [Act.put, List.setIfInBounds_toArray, List.set_cons_succ, List.set_cons_zero]
    refine AnyX.take 2 rfl (by kernel_rfl) (fun _ _ _ h => h) hS0 rfl (by rintro W ⟨s0, s1, s2, s3⟩; go_simp; rfl) ?_; simp only [Act.put, List.setIfInBounds_toArray, List.set_cons_succ, List.set_cons_zero]
    refine AnyX.take 3 rfl (by kernel_rfl) (fun _ _ _ h => h) hS0 rfl (by rintro W ⟨s0, s1, s2, s3⟩; go_simp; rfl) ?_; simp only [Act.put, List.setIfInBounds_toArray, List.set_cons_succ, List.set_cons_zero]
    refine AnyX.take 4 rfl (by kernel_rfl) (fun _ _ _ h => h) hS0 rfl (by rintro W ⟨s0, s1, s2, s3⟩; go_simp; rfl) ?_; simp only [Act.put, List.setIfInBounds_toArray, List.set_cons_succ, List.set_cons_zero]
    refine AnyX.take 5 rfl (by kernel_rfl) (fun _ _ _ h => h) hS0 rfl (by rintro W ⟨s0, s1, s2, s3⟩; go_simp; rfl) ?_; simp only [Act.put, List.setIfInBounds_toArray, List.set_cons_succ, List.set_cons_zero]
    refine AnyX.take 6 rfl (by kernel_rfl) (fun _ _ _ h => h) hS0 rfl (by rintro W ⟨s0, s1, s2, s3⟩; go_simp; rfl) ?_; simp only [Act.put, List.setIfInBounds_toArray, List.set_cons_succ, List.set_cons_zero]
    refine AnyX.take 7 rfl (by kernel_rfl) (fun _ _ _ h => h) hS0 rfl (by rintro W ⟨s0, s1, s2, s3⟩; go_simp; rfl) ?_; simp only [Act.put, List.setIfInBounds_toArray, List.set_cons_succ, List.set_cons_zero]
    refine AnyX.take 8 rfl (by kernel_rfl) (fun _ _ _ h => h) hS0 rfl (by rintro W ⟨s0, s1, s2, s3⟩; go_simp; rfl) ?_; simp only [Act.put, List.setIfInBounds_toArray, List.set_cons_succ, List.set_cons_zero]
    refine AnyX.take 9 rfl (by kernel_rfl) (fun _ _ _ h => h) hS0 rfl (by rintro W ⟨s0, s1, s2, s3⟩; go_simp; rfl) ?_; simp only [Act.put, List.setIfInBounds_toArray, List.set_cons_succ, List.set_cons_zero]
    refine AnyX.take 10 rfl (by kernel_rfl) (fun _ _ _ h => h) hS0 rfl (by rintro W ⟨s0, s1, s2, s3⟩; go_simp; rfl) ?_; simp only [Act.put, List.setIfInBounds_toArray, List.set_cons_succ, List.set_cons_zero]
    refine AnyX.take 11 rfl (by kernel_rfl) (fun _ _ _ h => h) hS0 rfl (by rintro W ⟨s0, s1, s2, s3⟩; go_simp; rfl) ?_; simp only [Act.put, List.setIfInBounds_toArray, List.set_cons_succ, List.set_cons_zero]
    refine AnyX.take 12 rfl (by kernel_rfl) (fun _ _ _ h => h) hS0 rfl (by rintro W ⟨s0, s1, s2, s3⟩; go_simp; rfl) ?_; simp only [Act.put, List.setIfInBounds_toArray, List.set_cons_succ, List.set_cons_zero]
    refine AnyX.take 13 rfl (by kernel_rfl) (fun _ _ _ h => h) hS0 rfl (by rintro W ⟨s0, s1, s2, s3⟩; go_simp; rfl) ?_; simp only [Act.put, List.setIfInBounds_toArray, List.set_cons_succ, List.set_cons_zero]
    refine AnyX.take 14 rfl (by kernel_rfl) (fun _ _ _ h => h) hS0 rfl (by rintro W ⟨s0, s1, s2, s3⟩; go_simp; rfl) ?_; simp only [Act.put, List.setIfInBounds_toArray, List.set_cons_succ, List.set_cons_zero]
    refine AnyX.act 15 rfl (by kernel_rfl) rfl (fun K hK => ?_)
    go_wp2_with (go_at_call 86; refine HO.out.mono ?_; rintro e w' ⟨rfl, hb⟩)
    exact ⟨rfl, rfl, ((Ext.refl _ w).drew).trans (Ext.of_below hb (Nat.le_refl _))⟩
  | ok r =>
    obtain ⟨t, rs, bh⟩ := r
    rw [hx] at ho hnf
    simp only at hnf
    rw [hnf]
    have ho' : Calls Tryz.prog 86 #[.pointer (some ⟨lp, 0, none⟩), .int .i64 S, .int .i64 l.at_, .int .u64 l.next] w.drew fun e w' => ∃ (va : Option Addr) (vc : Nat), e = .returned (.tuple #[.int .u64 t, .slice va rs.length vc, .int .i64 bh]) ∧ (w'.cell? ⟨b5, 0, none⟩ = some (.pointer (some ⟨lp, 0, none⟩)) ∧ w'.cell? ⟨lp, 1, none⟩ = some (.int .u64 l.turn) ∧ w'.cell? ⟨lp, 2, none⟩ = some (.int .u64 l.next) ∧ w'.cell? ⟨lp, 3, none⟩ = some (.int .i64 l.at_)) ∧
        w'.cell? ⟨b8, 0, none⟩ = some v8 ∧ w'.frozen? ⟨b8, 0, none⟩ = false ∧ w'.cell? ⟨b9, 0, none⟩ = some v9 ∧ w'.frozen? ⟨b9, 0, none⟩ = false ∧
        Hid (w'.heap[b8]? = some (.cells #[v8] 108 (0, 0)) ∧ w'.heap[b9]? = some (.cells #[v9] 3 (0, 0)) ∧ (∃ cs, w'.ownsRow w.heap.size 114 1 (.slice va rs.length vc) rs.length cs ∧ RecsAt w' cs rs) ∧ Below w.heap.size w w') := by
      refine ho.mono ?_
      rintro e w' ⟨⟨v, cs, rfl, ho1, ho2⟩, hb⟩
      obtain ⟨va, vc, rfl⟩ := (Rd.of_own ho1).form
      have q5 := (hb.block _ (lt_of_heap h5)).trans h5
      have q8 := (hb.block _ (lt_of_heap h8)).trans h8
      have q9 := (hb.block _ (lt_of_heap h9)).trans h9
      have ql := (hb.block _ h.lt.1).trans h.blk
      have d5 := cell_of_block q5 0
      have d8 := cell_of_block q8 0
      have d9 := cell_of_block q9 0
      have e1 := cell_of_block ql 1
      have e2 := cell_of_block ql 2
      have e3 := cell_of_block ql 3
      simp at d5 d8 d9 e1 e2 e3
      exact ⟨va, vc, rfl, ⟨d5, e1, e2, e3⟩, d8, free_of_block q8 0, d9, free_of_block q9 0, q8, q9, ⟨cs, ho1, ho2⟩, ((Below.refl _ w).drew).trans hb⟩
    have HO := Lib.hid ho'
    clear ho ho' hx hnf h h5 h8 h9 c5 k1 k2 k3 hS c8 c9
    by_cases htt : t = l.turn
    · subst htt
      rw [if_pos rfl]
      go_enter Tryz.func85, Tryz.ntmps85
      go_wp2_with fail
      refine region_X (fun W => W.cell? ⟨b5, 0, none⟩ = some (.pointer (some ⟨lp, 0, none⟩)) ∧ W.cell? ⟨lp, 1, none⟩ = some (.int .u64 l.turn) ∧ W.cell? ⟨lp, 2, none⟩ = some (.int .u64 l.next) ∧ W.cell? ⟨lp, 3, none⟩ = some (.int .i64 l.at_)) (by kernel_rfl) ?_
      simp only [List.length_cons, List.length_nil, Nat.reduceAdd]
      refine AnyX.take 0 rfl (by kernel_rfl) (fun _ _ _ h => h) hS0 rfl (by rintro W ⟨s0, s1, s2, s3⟩; go_simp; rfl) ?_; simp only [Act.put, List.setIfInBounds_toArray, List.set_cons_succ, List.set_cons_zero]
      refine AnyX.take 1 rfl (by kernel_rfl) (fun _ _ _ h => h) hS0 rfl (by rintro W ⟨s0, s1, s2, s3⟩; go_simp; rfl) ?_; simp only [Act.put, List.setIfInBounds_toArray, List.set_cons_succ, List.set_cons_zero]
      refine AnyX.take 2 rfl (by kernel_rfl) (fun _ _ _ h => h) hS0 rfl (by rintro W ⟨s0, s1, s2, s3⟩; go_simp; rfl) ?_; simp only [Act.put, List.setIfInBounds_toArray, List.set_cons_succ, List.set_cons_zero]
      refine AnyX.take 3 rfl (by kernel_rfl) (fun _ _ _ h => h) hS0 rfl (by rintro W ⟨s0, s1, s2, s3⟩; go_simp; rfl) ?_; simp only [Act.put, List.setIfInBounds_toArray, List.set_cons_succ, List.set_cons_zero]
      refine AnyX.take 4 rfl (by kernel_rfl) (fun _ _ _ h => h) hS0 rfl (by rintro W ⟨s0, s1, s2, s3⟩; go_simp; rfl) ?_; simp only [Act.put, List.setIfInBounds_toArray, List.set_cons_succ, List.set_cons_zero]
      refine AnyX.take 5 rfl (by kernel_rfl) (fun _ _ _ h => h) hS0 rfl (by rintro W ⟨s0, s1, s2, s3⟩; go_simp; rfl) ?_; simp only [Act.put, List.setIfInBounds_toArray, List.set_cons_succ, List.set_cons_zero]
      refine AnyX.take 6 rfl (by kernel_rfl) (fun _ _ _ h => h) hS0 rfl (by rintro W ⟨s0, s1, s2, s3⟩; go_simp; rfl) ?_; simp only [Act.put, List.setIfInBounds_toArray, List.set_cons_succ, List.set_cons_zero]
      refine AnyX.take 7 rfl (by kernel_rfl) (fun _ _ _ h => h) hS0 rfl (by rintro W ⟨s0, s1, s2, s3⟩; go_simp; rfl) ?_; simp only [Act.put, List.setIfInBounds_toArray, List.set_cons_succ, List.set_cons_zero]
      refine AnyX.take 8 rfl (by kernel_rfl) (fun _ _ _ h => h) hS0 rfl (by rintro W ⟨s0, s1, s2, s3⟩; go_simp; rfl) ?_; simp only [Act.put, List.setIfInBounds_toArray, List.set_cons_succ, List.set_cons_zero]
      refine AnyX.take 9 rfl (by kernel_rfl) (fun _ _ _ h => h) hS0 rfl (by rintro W ⟨s0, s1, s2, s3⟩; go_simp; rfl) ?_; simp only [Act.put, List.setIfInBounds_toArray, List.set_cons_succ, List.set_cons_zero]
      refine AnyX.take 10 rfl (by kernel_rfl) (fun _ _ _ h => h) hS0 rfl (by rintro W ⟨s0, s1, s2, s3⟩; go_simp; rfl) ?_; simp only [Act.put, List.setIfInBounds_toArray, List.set_cons_succ, List.set_cons_zero]
      refine AnyX.take 11 rfl (by kernel_rfl) (fun _ _ _ h => h) hS0 rfl (by rintro W ⟨s0, s1, s2, s3⟩; go_simp; rfl) ?_; simp only [Act.put, List.setIfInBounds_toArray, List.set_cons_succ, List.set_cons_zero]
      refine AnyX.take 12 rfl (by kernel_rfl) (fun _ _ _ h => h) hS0 rfl (by rintro W ⟨s0, s1, s2, s3⟩; go_simp; rfl) ?_; simp only [Act.put, List.setIfInBounds_toArray, List.set_cons_succ, List.set_cons_zero]
      refine AnyX.take 13 rfl (by kernel_rfl) (fun _ _ _ h => h) hS0 rfl (by rintro W ⟨s0, s1, s2, s3⟩; go_simp; rfl) ?_; simp only [Act.put, List.setIfInBounds_toArray, List.set_cons_succ, List.set_cons_zero]
      refine AnyX.take 14 rfl (by kernel_rfl) (fun _ _ _ h => h) hS0 rfl (by rintro W ⟨s0, s1, s2, s3⟩; go_simp; rfl) ?_; simp only [Act.put, List.setIfInBounds_toArray, List.set_cons_succ, List.set_cons_zero]
      refine AnyX.act 15 rfl (by kernel_rfl) rfl (fun K hK => ?_)
      go_wp2_with (go_at_call 86; refine HO.out.mono ?_; rintro e w1 ⟨va, vc, rfl, hS1, d8, f8, d9, f9, H1⟩)
      refine hK _ _ hS1 ?_
      clear hK K
      refine AnyX.take 16 rfl (by kernel_rfl) (fun _ _ _ h => h) hS1 rfl (by rintro W ⟨s0, s1, s2, s3⟩; go_simp; rfl) ?_; simp only [Act.put, List.setIfInBounds_toArray, List.set_cons_succ, List.set_cons_zero]
      refine AnyX.take 17 rfl (by kernel_rfl) (fun _ _ _ h => h) hS1 rfl (by rintro W ⟨s0, s1, s2, s3⟩; go_simp; rfl) ?_; simp only [Act.put, List.setIfInBounds_toArray, List.set_cons_succ, List.set_cons_zero]
      refine AnyX.take 18 rfl (by kernel_rfl) (fun _ _ _ h => h) hS1 rfl (by rintro W ⟨s0, s1, s2, s3⟩; go_simp; rfl) ?_; simp only [Act.put, List.setIfInBounds_toArray, List.set_cons_succ, List.set_cons_zero]
      refine AnyX.take 19 rfl (by kernel_rfl) (fun _ _ _ h => h) hS1 rfl (by rintro W ⟨s0, s1, s2, s3⟩; go_simp; rfl) ?_; simp only [Act.put, List.setIfInBounds_toArray, List.set_cons_succ, List.set_cons_zero]
      refine AnyX.take 20 rfl (by kernel_rfl) (fun _ _ _ h => h) hS1 rfl (by rintro W ⟨s0, s1, s2, s3⟩; go_simp; rfl) ?_; simp only [Act.put, List.setIfInBounds_toArray, List.set_cons_succ, List.set_cons_zero]
      refine AnyX.take 21 rfl (by kernel_rfl) (fun _ _ _ h => h) hS1 rfl (by rintro W ⟨s0, s1, s2, s3⟩; go_simp; rfl) ?_; simp only [Act.put, List.setIfInBounds_toArray, List.set_cons_succ, List.set_cons_zero]
      refine AnyX.end_ 22 rfl (by kernel_rfl) (by kernel_rfl) (by kernel_rfl) rfl ?_
      obtain ⟨k5, k1, k2, k3⟩ := hS1
      go_wp2_with (go_at_call 87; refine (must_ok 0 _).mono ?_; rintro e w' ⟨rfl, rfl⟩)
      go_end0
      obtain ⟨q8, q9, ⟨cs, ho1, ho2⟩, hb⟩ := H1.out
      have r8 := heap_setCell_at (i := 0) q8 (.slice va rs.length vc)
      have r9 := (heap_setCell_ne (w := w1) (a := ⟨b8, 0, none⟩) (k := b9) (Ne.symm hne) (.slice va rs.length vc)).trans q9
      have r9' := heap_setCell_at (i := 0) r9 (.int .i64 bh)
      have r8' := (heap_setCell_ne (w := w1.setCell ⟨b8, 0, none⟩ (.slice va rs.length vc)) (a := ⟨b9, 0, none⟩) (k := b8) hne (.int .i64 bh)).trans r8
      have hkk : ∀ (e : TypeId), e ≠ 108 → e ≠ 3 → KeepT e w1 ((w1.setCell ⟨b8, 0, none⟩ (.slice va rs.length vc)).setCell ⟨b9, 0, none⟩ (.int .i64 bh)) := by
        intro e he1 he2 b cur fr hq
        rw [heap_setCell_ne (by rintro rfl; rw [q9] at hq; simp at hq; exact he2 hq.2.1.symm), heap_setCell_ne (by rintro rfl; rw [q8] at hq; simp at hq; exact he1 hq.2.1.symm)]
        exact hq
      exact ⟨⟨rfl, _, cs, r8', r9', own_keep ho1 (hkk _ (by decide) (by decide)), ho2.kept (hkk _ (by decide) (by decide))⟩, ((Ext.of_below (S := fun k => k = b8 ∨ k = b9) hb (Nat.le_refl _)).setLog b8 0 _ (.inl rfl)).setLog b9 0 _ (.inr rfl)⟩
    · rw [if_neg htt]
      have htt' : ((t : Int) == (l.turn : Int)) = false := by simp; omega
      go_enter Tryz.func85, Tryz.ntmps85
      go_wp2_with fail
      refine region_X (fun W => W.cell? ⟨b5, 0, none⟩ = some (.pointer (some ⟨lp, 0, none⟩)) ∧ W.cell? ⟨lp, 1, none⟩ = some (.int .u64 l.turn) ∧ W.cell? ⟨lp, 2, none⟩ = some (.int .u64 l.next) ∧ W.cell? ⟨lp, 3, none⟩ = some (.int .i64 l.at_)) (by kernel_rfl) ?_
      simp only [List.length_cons, List.length_nil, Nat.reduceAdd]
      refine AnyX.take 0 rfl (by kernel_rfl) (fun _ _ _ h => h) hS0 rfl (by rintro W ⟨s0, s1, s2, s3⟩; go_simp; rfl) ?_; simp only [Act.put, List.setIfInBounds_toArray, List.set_cons_succ, List.set_cons_zero]
      refine AnyX.take 1 rfl (by kernel_rfl) (fun _ _ _ h => h) hS0 rfl (by rintro W ⟨s0, s1, s2, s3⟩; go_simp; rfl) ?_; simp only [Act.put, List.setIfInBounds_toArray, List.set_cons_succ, List.set_cons_zero]
      refine AnyX.take 2 rfl (by kernel_rfl) (fun _ _ _ h => h) hS0 rfl (by rintro W ⟨s0, s1, s2, s3⟩; go_simp; rfl) ?_; simp only [Act.put, List.setIfInBounds_toArray, List.set_cons_succ, List.set_cons_zero]
      refine AnyX.take 3 rfl (by kernel_rfl) (fun _ _ _ h => h) hS0 rfl (by rintro W ⟨s0, s1, s2, s3⟩; go_simp; rfl) ?_; simp only [Act.put, List.setIfInBounds_toArray, List.set_cons_succ, List.set_cons_zero]
      refine AnyX.take 4 rfl (by kernel_rfl) (fun _ _ _ h => h) hS0 rfl (by rintro W ⟨s0, s1, s2, s3⟩; go_simp; rfl) ?_; simp only [Act.put, List.setIfInBounds_toArray, List.set_cons_succ, List.set_cons_zero]
      refine AnyX.take 5 rfl (by kernel_rfl) (fun _ _ _ h => h) hS0 rfl (by rintro W ⟨s0, s1, s2, s3⟩; go_simp; rfl) ?_; simp only [Act.put, List.setIfInBounds_toArray, List.set_cons_succ, List.set_cons_zero]
      refine AnyX.take 6 rfl (by kernel_rfl) (fun _ _ _ h => h) hS0 rfl (by rintro W ⟨s0, s1, s2, s3⟩; go_simp; rfl) ?_; simp only [Act.put, List.setIfInBounds_toArray, List.set_cons_succ, List.set_cons_zero]
      refine AnyX.take 7 rfl (by kernel_rfl) (fun _ _ _ h => h) hS0 rfl (by rintro W ⟨s0, s1, s2, s3⟩; go_simp; rfl) ?_; simp only [Act.put, List.setIfInBounds_toArray, List.set_cons_succ, List.set_cons_zero]
      refine AnyX.take 8 rfl (by kernel_rfl) (fun _ _ _ h => h) hS0 rfl (by rintro W ⟨s0, s1, s2, s3⟩; go_simp; rfl) ?_; simp only [Act.put, List.setIfInBounds_toArray, List.set_cons_succ, List.set_cons_zero]
      refine AnyX.take 9 rfl (by kernel_rfl) (fun _ _ _ h => h) hS0 rfl (by rintro W ⟨s0, s1, s2, s3⟩; go_simp; rfl) ?_; simp only [Act.put, List.setIfInBounds_toArray, List.set_cons_succ, List.set_cons_zero]
      refine AnyX.take 10 rfl (by kernel_rfl) (fun _ _ _ h => h) hS0 rfl (by rintro W ⟨s0, s1, s2, s3⟩; go_simp; rfl) ?_; simp only [Act.put, List.setIfInBounds_toArray, List.set_cons_succ, List.set_cons_zero]
      refine AnyX.take 11 rfl (by kernel_rfl) (fun _ _ _ h => h) hS0 rfl (by rintro W ⟨s0, s1, s2, s3⟩; go_simp; rfl) ?_; simp only [Act.put, List.setIfInBounds_toArray, List.set_cons_succ, List.set_cons_zero]
      refine AnyX.take 12 rfl (by kernel_rfl) (fun _ _ _ h => h) hS0 rfl (by rintro W ⟨s0, s1, s2, s3⟩; go_simp; rfl) ?_; simp only [Act.put, List.setIfInBounds_toArray, List.set_cons_succ, List.set_cons_zero]
      refine AnyX.take 13 rfl (by kernel_rfl) (fun _ _ _ h => h) hS0 rfl (by rintro W ⟨s0, s1, s2, s3⟩; go_simp; rfl) ?_; simp only [Act.put, List.setIfInBounds_toArray, List.set_cons_succ, List.set_cons_zero]
      refine AnyX.take 14 rfl (by kernel_rfl) (fun _ _ _ h => h) hS0 rfl (by rintro W ⟨s0, s1, s2, s3⟩; go_simp; rfl) ?_; simp only [Act.put, List.setIfInBounds_toArray, List.set_cons_succ, List.set_cons_zero]
      refine AnyX.act 15 rfl (by kernel_rfl) rfl (fun K hK => ?_)
      go_wp2_with (go_at_call 86; refine HO.out.mono ?_; rintro e w1 ⟨va, vc, rfl, hS1, d8, f8, d9, f9, H1⟩)
      refine hK _ _ hS1 ?_
      clear hK K
      refine AnyX.take 16 rfl (by kernel_rfl) (fun _ _ _ h => h) hS1 rfl (by rintro W ⟨s0, s1, s2, s3⟩; go_simp; rfl) ?_; simp only [Act.put, List.setIfInBounds_toArray, List.set_cons_succ, List.set_cons_zero]
      refine AnyX.take 17 rfl (by kernel_rfl) (fun _ _ _ h => h) hS1 rfl (by rintro W ⟨s0, s1, s2, s3⟩; go_simp; rfl) ?_; simp only [Act.put, List.setIfInBounds_toArray, List.set_cons_succ, List.set_cons_zero]
      refine AnyX.take 18 rfl (by kernel_rfl) (fun _ _ _ h => h) hS1 rfl (by rintro W ⟨s0, s1, s2, s3⟩; go_simp; rfl) ?_; simp only [Act.put, List.setIfInBounds_toArray, List.set_cons_succ, List.set_cons_zero]
      refine AnyX.take 19 rfl (by kernel_rfl) (fun _ _ _ h => h) hS1 rfl (by rintro W ⟨s0, s1, s2, s3⟩; go_simp; rfl) ?_; simp only [Act.put, List.setIfInBounds_toArray, List.set_cons_succ, List.set_cons_zero]
      refine AnyX.take 20 rfl (by kernel_rfl) (fun _ _ _ h => h) hS1 rfl (by rintro W ⟨s0, s1, s2, s3⟩; go_simp; rfl) ?_; simp only [Act.put, List.setIfInBounds_toArray, List.set_cons_succ, List.set_cons_zero]
      refine AnyX.take 21 rfl (by kernel_rfl) (fun _ _ _ h => h) hS1 rfl (by rintro W ⟨s0, s1, s2, s3⟩; go_simp; rfl) ?_; simp only [Act.put, List.setIfInBounds_toArray, List.set_cons_succ, List.set_cons_zero]
      refine AnyX.end_ 22 rfl (by kernel_rfl) (by kernel_rfl) (by kernel_rfl) rfl ?_
      obtain ⟨k5, k1, k2, k3⟩ := hS1
      go_wp2_with (go_at_call 87; refine (must_no 0 _).mono ?_; rintro e w' ⟨rfl, rfl⟩)
      exact ⟨rfl, rfl, Ext.of_below H1.out.2.2.2 (Nat.le_refl _)⟩
/-- What try tells of the next frame. -/
def NextTold (o : Except Int (List (List UInt8) × Nat)) (b8 b9 : Nat) (w : World) (e : Ending) (w' : World) : Prop :=
  match o with
  | .ok r => e = .returned (.tuple #[.bool true, .int .i64 0]) ∧ ∃ v cs, w'.heap[b8]? = some (.cells #[v] 108 (0, 0)) ∧ w'.heap[b9]? = some (.cells #[.int .i64 (r.2 : Nat)] 3 (0, 0)) ∧ w'.ownsRow w.heap.size 114 1 v r.1.length cs ∧ RecsAt w' cs r.1
  | .error x => e = .returned (.tuple #[.bool false, .int .i64 x])
theorem try_next (h : LogAt X w lp um l p g m s) (hz : 128 ≤ s.size) (ha : l.at_ ≤ 4096) (hn : l.next < 18446744073709551616) {b5 b8 b9 : Nat} {v8 v9 : Value} (h5 : w.heap[b5]? = some (.cells #[.pointer (some ⟨lp, 0, none⟩)] 115 (0, 0)))
    (h8 : w.heap[b8]? = some (.cells #[v8] 108 (0, 0))) (h9 : w.heap[b9]? = some (.cells #[v9] 3 (0, 0))) :
    Calls Tryz.prog 84 #[.func (.func 85) #[] #[.pointer (some ⟨b5, 0, none⟩), .pointer (some ⟨b8, 0, none⟩), .pointer (some ⟨b9, 0, none⟩)]] w fun e w' => NextTold (nextF s l.turn l.at_ l.next) b8 b9 w e w' ∧ Ext (fun k => k = b8 ∨ k = b9) w w' := by
  have hx : Ext (fun _ => False) w ((w.alloc (.cells #[.bool false] 4)).alloc (.cells #[.int .i64 0] 30)) := ((Ext.refl _ w).alloc _).alloc _
  have hl := h.past hx ⟨id, id, id, id, id⟩ (hx.keepT (fun _ _ _ _ => id))
  have hl8 := lt_of_heap h8
  have hl9 := lt_of_heap h9
  have n1 := heap_alloc_new w (.cells #[.bool false] 4)
  have n2 := heap_alloc_new (w.alloc (.cells #[.bool false] 4)) (.cells #[.int .i64 0] 30)
  have n1' := (heap_alloc_lt (w := w.alloc (.cells #[.bool false] 4)) (o := .cells #[.int .i64 0] 30) (k := w.heap.size) (by simp)).trans n1
  have hbg := next1_any hl hz ha hn ((hx.block _ (lt_of_heap h5) id).trans h5) ((hx.block _ hl8 id).trans h8) ((hx.block _ hl9 id).trans h9)
  refine (try_any (.inr rfl) hbg ?_).mono ?_
  · rintro e w' ⟨hp, hxe⟩
    refine ⟨?_, (hxe.block _ (by simp; omega) (by omega)).trans n1', (hxe.block _ (by simp) (by omega)).trans ?_⟩
    · cases hsd : nextF s l.turn l.at_ l.next with
      | ok t => rw [hsd] at hp; exact .inl hp.1
      | error x => rw [hsd] at hp; exact .inr ⟨x, hp⟩
    · simpa using n2
  · rintro e w' ⟨e0, w0, ⟨hp, hxe⟩, rfl, hx2⟩
    have hxw : Ext (fun k => k = b8 ∨ k = b9) w w' := ((hx.mono (fun _ _ h => h.elim)).trans hxe).andThen hx2 (fun i hi hs' => by omega)
    refine ⟨?_, hxw⟩
    cases hsd : nextF s l.turn l.at_ l.next with
    | ok r =>
      rw [hsd] at hp
      obtain ⟨rfl, v, cs, q8, q9, q1, q2⟩ := hp
      have hsz : ((w.alloc (.cells #[.bool false] 4)).alloc (.cells #[.int .i64 0] 30)).heap.size = w.heap.size + 1 + 1 := by simp
      have b1 : w0.heap[w.heap.size]? = some (.cells #[.bool false] 4 (0, 0)) := (hxe.block _ (by rw [hsz]; omega) (by omega)).trans n1'
      have b2 : w0.heap[w.heap.size + 1]? = some (.cells #[.int .i64 0] 30 (0, 0)) := (hxe.block _ (by rw [hsz]; omega) (by omega)).trans (by simpa using n2)
      have hkk : ∀ (e : TypeId), e ≠ 4 → e ≠ 30 → KeepT e w0 w' := by
        intro e he1 he2
        refine hx2.keepT ?_
        rintro b cur fr hq (rfl | rfl)
        · rw [b1] at hq
          simp at hq
          exact he1 hq.2.1.symm
        · rw [b2] at hq
          simp at hq
          exact he2 hq.2.1.symm
      exact ⟨rfl, v, cs, (hx2.block _ (lt_of_heap q8) (by omega)).trans q8, (hx2.block _ (lt_of_heap q9) (by omega)).trans q9, own_mono (own_keep q1 (hkk _ (by decide) (by decide))) (by rw [hsz]; omega), q2.kept (hkk _ (by decide) (by decide))⟩
    | error x =>
      rw [hsd] at hp
      obtain rfl := hp
      exact rfl
end
end Go.Proofs.YtekolejeliefdaaGreat
