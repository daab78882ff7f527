/- The log: what is read. -/
import Derived.Test.YtekolejeliefdaaGreatWalF
set_option linter.unusedVariables false
set_option linter.unusedSimpArgs false
namespace Go.Proofs.YtekolejeliefdaaGreat
open Go.RowKit
variable {X : Nat → Prop}

/-- A side's sector: its bytes, or what reading stops with. -/
def secAt (s : DS) (side a : Nat) : Except Int (List UInt8) :=
  if a < s.sure.length / 2 then (if s.at ((side * (s.sure.length / 2) + a : Nat) : Int) = 0 then .ok (s.read ((side * (s.sure.length / 2) + a : Nat) : Int)) else .error (s.at ((side * (s.sure.length / 2) + a : Nat) : Int))) else .error 0

section
variable {w : World} {lp um p g m : Nat} {l : LS} {s : DS}
theorem sector_far (h : LogAt X w lp um l p g m s) (side a : Nat) (ha : ¬ a < s.sure.length / 2) (ha2 : a ≤ 4611686018427387904) :
    Calls Tryz.prog 128 #[.pointer (some ⟨lp, 0, none⟩), .int .i64 side, .int .i64 a] w fun e w' => e = .panicked [{ v := stopV 0, recovered := false }] ∧ w = w' := by
  have HH := Lib.hid (half_any h)
  have HM := Lib.hid (must_no 0 w)
  obtain ⟨y, hy⟩ : ∃ y, s.sure.length / 2 = y := ⟨_, rfl⟩
  rw [hy] at HH ha
  clear h hy
  go_enter Tryz.func128, Tryz.ntmps128
  go_wp2_with (first | (go_at_call 153; refine HH.out.mono ?_; rintro e w' ⟨rfl, rfl⟩) | (go_at_call 87; refine HM.out.mono ?_; rintro e w' ⟨rfl, rfl⟩))
  exact ⟨rfl, rfl, rfl⟩
theorem DS.at_or (s : DS) (i : Int) : s.at i = 0 ∨ s.at i = 30 ∨ s.at i = 32 := by
  unfold DS.at
  split
  · simp
  · split <;> simp
set_option maxRecDepth 100000 in
theorem sector_near (h : LogAt X w lp um l p g m s) (side a : Nat) (hs : side ≤ 1) (ha : a < s.sure.length / 2) :
    Calls Tryz.prog 128 #[.pointer (some ⟨lp, 0, none⟩), .int .i64 side, .int .i64 a] w fun e w' =>
      (∀ xs, secAt s side a = .ok xs → ∃ v, e = .returned v ∧ w'.ownsRow w.heap.size 5 1 v xs.length (u8s xs)) ∧ (∀ x, secAt s side a = .error x → e = .panicked [{ v := stopV x, recovered := false }]) ∧ Below w.heap.size w w' := by
  have HH := Lib.hid (half_any h)
  have HH2 := Lib.hid (half_any h.drew)
  have HM := Lib.hid (must_ok 0 w)
  have hN := h.disk.ok.n2
  obtain ⟨y, hy⟩ : ∃ y, s.sure.length / 2 = y := ⟨_, rfl⟩
  obtain ⟨i, hi⟩ : ∃ i, side * y + a = i := ⟨_, rfl⟩
  rw [hy] at HH HH2 ha
  have hil : side * y ≤ 1 * 2048 := Nat.mul_le_mul hs (by omega)
  have hmul : IntKind.i64.wrap (IntKind.i64.wrap ((side : Int) * (y : Int)) + (a : Int)) = (i : Int) := by
    have q : (side : Int) * (y : Int) = ((side * y : Nat) : Int) := by push_cast; rfl
    rw [q, IntWalk.i64_left, IntWalk.i64_left, IntWalk.wrap64_in ((side * y : Nat) : Int) (by omega), IntWalk.wrap64_in _ (by omega)]
    omega
  have hrd := read_any h.drew.disk (i : Int)
  have c0 : w.drew.cell? ⟨lp, 0, none⟩ = some (.pointer (some ⟨p, 0, none⟩)) := by rw [cell_of_block h.drew.blk]; rfl
  have hrd' : Calls Tryz.prog 154 #[.pointer (some ⟨p, 0, none⟩), .int .i64 i] w.drew fun e w' => ∃ v, e = .returned (.tuple #[v, .int .i64 (s.at i)]) ∧ w'.cell? ⟨lp, 0, none⟩ = some (.pointer (some ⟨p, 0, none⟩)) ∧
      Hid (w'.ownsRow w.heap.size 5 1 v (s.read i).length (u8s (s.read i)) ∧ Below w.heap.size w w') := by
    refine hrd.mono ?_
    rintro e w' ⟨v, rfl, ho, hb⟩
    have hlt := h.lt
    refine ⟨v, rfl, ?_, ho, ((Ext.refl (fun _ => False) w).drew.below (fun _ _ e => e) (Nat.le_refl _)).trans hb⟩
    rw [hb.cell (p := ⟨lp, 0, none⟩) hlt.1]
    exact c0
  have HRD := Lib.hid hrd'
  have hsec : secAt s side a = if s.at (i : Int) = 0 then .ok (s.read i) else .error (s.at i) := by
    unfold secAt
    rw [hy, hi, if_pos ha]
  rw [hsec]
  have hS0 := c0
  have hor := s.at_or i
  generalize s.at (i : Int) = E at *
  generalize s.read (i : Int) = xs at *
  clear h hy hi hil hrd hrd' hsec c0
  by_cases hE : E = 0
  · subst hE
    go_enter Tryz.func128, Tryz.ntmps128
    go_wp2_with (first | (go_at_call 153; refine HH.out.mono ?_; rintro e w' ⟨rfl, rfl⟩) | (go_at_call 87; refine HM.out.mono ?_; rintro e w' ⟨rfl, rfl⟩))
    refine region_X (fun W => W.cell? ⟨lp, 0, none⟩ = some (.pointer (some ⟨p, 0, none⟩))) (by kernel_rfl) ?_
    simp only [List.length_cons, List.length_nil, Nat.reduceAdd]
    refine AnyX.take 0 rfl (by kernel_rfl) (fun _ _ _ h => h) hS0 rfl (by rintro W s0; go_simp; rfl) ?_; simp only [Act.put, List.setIfInBounds_toArray, List.set_cons_succ, List.set_cons_zero]
    refine AnyX.take 1 rfl (by kernel_rfl) (fun _ _ _ h => h) hS0 rfl (by rintro W s0; go_simp; rfl) ?_; simp only [Act.put, List.setIfInBounds_toArray, List.set_cons_succ, List.set_cons_zero]
    refine AnyX.take 2 rfl (by kernel_rfl) (fun _ _ _ h => h) hS0 rfl (by rintro W s0; go_simp; rfl) ?_; simp only [Act.put, List.setIfInBounds_toArray, List.set_cons_succ, List.set_cons_zero]
    refine AnyX.take 3 rfl (by kernel_rfl) (fun _ _ _ h => h) hS0 rfl (by rintro W s0; go_simp; rfl) ?_; simp only [Act.put, List.setIfInBounds_toArray, List.set_cons_succ, List.set_cons_zero]
    refine AnyX.take 4 rfl (by kernel_rfl) (fun _ _ _ h => h) hS0 rfl (by rintro W s0; go_simp; rfl) ?_; simp only [Act.put, List.setIfInBounds_toArray, List.set_cons_succ, List.set_cons_zero]
    refine AnyX.take 5 rfl (by kernel_rfl) (fun _ _ _ h => h) hS0 rfl (by rintro W s0; go_simp; rfl) ?_; simp only [Act.put, List.setIfInBounds_toArray, List.set_cons_succ, List.set_cons_zero]
    refine AnyX.take 8 rfl (by kernel_rfl) (fun _ _ _ h => h) hS0 rfl (by rintro W s0; go_simp; rfl) ?_; simp only [Act.put, List.setIfInBounds_toArray, List.set_cons_succ, List.set_cons_zero]
    refine AnyX.act 6 rfl (by kernel_rfl) rfl (fun K hK => ?_)
    go_wp2_with (first | (go_at_call 153; refine HH2.out.mono ?_; rintro e w' ⟨rfl, rfl⟩) | (go_at_call 154; refine HRD.out.mono ?_; rintro e w2 ⟨v, rfl, hS1, H2⟩))
    refine hK _ _ hS0 ?_
    clear hK K
    refine AnyX.take 7 rfl (by kernel_rfl) (fun _ _ _ h => h) hS0 rfl (by rintro W s0; go_simp; rfl) ?_; simp only [Act.put, List.setIfInBounds_toArray, List.set_cons_succ, List.set_cons_zero]
    refine AnyX.take 9 rfl (by kernel_rfl) (fun _ _ _ h => h) hS0 rfl (by rintro W s0; go_simp; rfl) ?_; simp only [Act.put, List.setIfInBounds_toArray, List.set_cons_succ, List.set_cons_zero]
    refine AnyX.act 10 rfl (by kernel_rfl) rfl (fun K hK => ?_)
    go_wp2_with (first | (go_at_call 153; refine HH2.out.mono ?_; rintro e w' ⟨rfl, rfl⟩) | (go_at_call 154; refine HRD.out.mono ?_; rintro e w2 ⟨v, rfl, hS1, H2⟩))
    refine hK _ _ hS1 ?_
    clear hK K
    refine AnyX.take 11 rfl (by kernel_rfl) (fun _ _ _ h => h) hS1 rfl (by rintro W s0; go_simp; rfl) ?_; simp only [Act.put, List.setIfInBounds_toArray, List.set_cons_succ, List.set_cons_zero]
    refine AnyX.take 12 rfl (by kernel_rfl) (fun _ _ _ h => h) hS1 rfl (by rintro W s0; go_simp; rfl) ?_; simp only [Act.put, List.setIfInBounds_toArray, List.set_cons_succ, List.set_cons_zero]
    refine AnyX.take 13 rfl (by kernel_rfl) (fun _ _ _ h => h) hS1 rfl (by rintro W s0; go_simp; rfl) ?_; simp only [Act.put, List.setIfInBounds_toArray, List.set_cons_succ, List.set_cons_zero]
    refine AnyX.take 14 rfl (by kernel_rfl) (fun _ _ _ h => h) hS1 rfl (by rintro W s0; go_simp; rfl) ?_; simp only [Act.put, List.setIfInBounds_toArray, List.set_cons_succ, List.set_cons_zero]
    refine AnyX.end_ 15 rfl (by kernel_rfl) (by kernel_rfl) (by kernel_rfl) rfl ?_
    go_wp2_with (go_at_call 87; refine (must_ok 0 w2).mono ?_; rintro e w' ⟨rfl, rfl⟩)
    go_ret
    exact ⟨⟨_, rfl, H2.out.1⟩, H2.out.2⟩
  · have hE1 : (E == 0) = false := by simpa using hE
    go_enter Tryz.func128, Tryz.ntmps128
    go_wp2_with (first | (go_at_call 153; refine HH.out.mono ?_; rintro e w' ⟨rfl, rfl⟩) | (go_at_call 87; refine HM.out.mono ?_; rintro e w' ⟨rfl, rfl⟩))
    refine region_X (fun W => W.cell? ⟨lp, 0, none⟩ = some (.pointer (some ⟨p, 0, none⟩))) (by kernel_rfl) ?_
    simp only [List.length_cons, List.length_nil, Nat.reduceAdd]
    refine AnyX.take 0 rfl (by kernel_rfl) (fun _ _ _ h => h) hS0 rfl (by rintro W s0; go_simp; rfl) ?_; simp only [Act.put, List.setIfInBounds_toArray, List.set_cons_succ, List.set_cons_zero]
    refine AnyX.take 1 rfl (by kernel_rfl) (fun _ _ _ h => h) hS0 rfl (by rintro W s0; go_simp; rfl) ?_; simp only [Act.put, List.setIfInBounds_toArray, List.set_cons_succ, List.set_cons_zero]
    refine AnyX.take 2 rfl (by kernel_rfl) (fun _ _ _ h => h) hS0 rfl (by rintro W s0; go_simp; rfl) ?_; simp only [Act.put, List.setIfInBounds_toArray, List.set_cons_succ, List.set_cons_zero]
    refine AnyX.take 3 rfl (by kernel_rfl) (fun _ _ _ h => h) hS0 rfl (by rintro W s0; go_simp; rfl) ?_; simp only [Act.put, List.setIfInBounds_toArray, List.set_cons_succ, List.set_cons_zero]
    refine AnyX.take 4 rfl (by kernel_rfl) (fun _ _ _ h => h) hS0 rfl (by rintro W s0; go_simp; rfl) ?_; simp only [Act.put, List.setIfInBounds_toArray, List.set_cons_succ, List.set_cons_zero]
    refine AnyX.take 5 rfl (by kernel_rfl) (fun _ _ _ h => h) hS0 rfl (by rintro W s0; go_simp; rfl) ?_; simp only [Act.put, List.setIfInBounds_toArray, List.set_cons_succ, List.set_cons_zero]
    refine AnyX.take 8 rfl (by kernel_rfl) (fun _ _ _ h => h) hS0 rfl (by rintro W s0; go_simp; rfl) ?_; simp only [Act.put, List.setIfInBounds_toArray, List.set_cons_succ, List.set_cons_zero]
    refine AnyX.act 6 rfl (by kernel_rfl) rfl (fun K hK => ?_)
    go_wp2_with (first | (go_at_call 153; refine HH2.out.mono ?_; rintro e w' ⟨rfl, rfl⟩) | (go_at_call 154; refine HRD.out.mono ?_; rintro e w2 ⟨v, rfl, hS1, H2⟩))
    refine hK _ _ hS0 ?_
    clear hK K
    refine AnyX.take 7 rfl (by kernel_rfl) (fun _ _ _ h => h) hS0 rfl (by rintro W s0; go_simp; rfl) ?_; simp only [Act.put, List.setIfInBounds_toArray, List.set_cons_succ, List.set_cons_zero]
    refine AnyX.take 9 rfl (by kernel_rfl) (fun _ _ _ h => h) hS0 rfl (by rintro W s0; go_simp; rfl) ?_; simp only [Act.put, List.setIfInBounds_toArray, List.set_cons_succ, List.set_cons_zero]
    refine AnyX.act 10 rfl (by kernel_rfl) rfl (fun K hK => ?_)
    go_wp2_with (first | (go_at_call 153; refine HH2.out.mono ?_; rintro e w' ⟨rfl, rfl⟩) | (go_at_call 154; refine HRD.out.mono ?_; rintro e w2 ⟨v, rfl, hS1, H2⟩))
    refine hK _ _ hS1 ?_
    clear hK K
    refine AnyX.take 11 rfl (by kernel_rfl) (fun _ _ _ h => h) hS1 rfl (by rintro W s0; go_simp; rfl) ?_; simp only [Act.put, List.setIfInBounds_toArray, List.set_cons_succ, List.set_cons_zero]
    refine AnyX.take 12 rfl (by kernel_rfl) (fun _ _ _ h => h) hS1 rfl (by rintro W s0; go_simp; rfl) ?_; simp only [Act.put, List.setIfInBounds_toArray, List.set_cons_succ, List.set_cons_zero]
    refine AnyX.take 13 rfl (by kernel_rfl) (fun _ _ _ h => h) hS1 rfl (by rintro W s0; go_simp; rfl) ?_; simp only [Act.put, List.setIfInBounds_toArray, List.set_cons_succ, List.set_cons_zero]
    refine AnyX.take 14 rfl (by kernel_rfl) (fun _ _ _ h => h) hS1 rfl (by rintro W s0; go_simp; rfl) ?_; simp only [Act.put, List.setIfInBounds_toArray, List.set_cons_succ, List.set_cons_zero]
    refine AnyX.end_ 15 rfl (by kernel_rfl) (by kernel_rfl) (by kernel_rfl) rfl ?_
    go_wp2_with (go_at_call 87; refine (must_no E w2).mono ?_; rintro e w' ⟨rfl, rfl⟩)
    exact ⟨rfl, rfl, H2.out.2⟩
theorem sector_any (h : LogAt X w lp um l p g m s) (side a : Nat) (hs : side ≤ 1) (ha2 : a ≤ 4611686018427387904) :
    Calls Tryz.prog 128 #[.pointer (some ⟨lp, 0, none⟩), .int .i64 side, .int .i64 a] w fun e w' =>
      (∀ xs, secAt s side a = .ok xs → ∃ v, e = .returned v ∧ w'.ownsRow w.heap.size 5 1 v xs.length (u8s xs)) ∧ (∀ x, secAt s side a = .error x → e = .panicked [{ v := stopV x, recovered := false }]) ∧ Below w.heap.size w w' := by
  by_cases ha : a < s.sure.length / 2
  · exact sector_near h side a hs ha
  · refine (sector_far h side a ha ha2).mono ?_
    rintro e w' ⟨rfl, rfl⟩
    unfold secAt
    rw [if_neg ha]
    exact ⟨fun xs h => (by cases h), fun x h => (by cases h; rfl), Below.refl _ _⟩
theorem secAt_len (h : s.Ok) (side a : Nat) (xs : List UInt8) (hx : secAt s side a = .ok xs) : xs.length = s.size ∧ a < s.sure.length / 2 := by
  unfold secAt at hx
  split at hx
  · rename_i ha
    split at hx
    · rename_i he
      cases hx
      refine ⟨?_, ha⟩
      generalize side * (s.sure.length / 2) + a = i at *
      have hi : i < s.sure.length := by
        unfold DS.at at he
        split at he
        · cases he
        · split at he
          · cases he
          · omega
      unfold DS.read
      rw [if_pos he]
      simp only [DS.last, Int.toNat_natCast]
      cases hd : dget s.dirty i with
      | some x =>
        obtain ⟨q, hq, rfl⟩ : ∃ q ∈ s.dirty, q.2 = x := by
          simp only [dget, Option.map_eq_some_iff] at hd
          obtain ⟨q, hq, rfl⟩ := hd
          exact ⟨q, List.mem_of_find?_eq_some hq, rfl⟩
        exact (h.dz q hq).2
      | none =>
        simp only [Option.getD_none]
        rw [List.getD_eq_getElem?_getD, List.getElem?_eq_getElem hi]
        exact h.sz _ (List.getElem_mem _)
    · cases hx
  · cases hx
/-- The bytes of so many more sectors. -/
def moreAt (s : DS) (side : Nat) : Nat → Nat → Except Int (List UInt8)
  | 0, _ => .ok []
  | k + 1, a => match secAt s side a with
    | .error x => .error x
    | .ok xs => match moreAt s side k (a + 1) with
      | .error x => .error x
      | .ok ys => .ok (xs.take (s.size - 16) ++ ys)
/-- Bytes as records; none: they are not whole. -/
def recsF : Nat → List UInt8 → Option (List (List UInt8))
  | 0, _ => some []
  | f + 1, xs => if xs.length = 0 then some [] else if xs.length < 4 then none else
      if xs.length - 4 < getF (xs.take 4) then none else (recsF f (xs.drop (4 + getF (xs.take 4)))).map (((xs.drop 4).take (getF (xs.take 4))) :: ·)
/-- A side's frame: its turn, its records, the place behind it; or what reading stops with. -/
def openF (s : DS) (side a next : Nat) : Except Int (Nat × List (List UInt8) × Nat) :=
  match secAt s side a with
  | .error x => .error x
  | .ok x =>
    let z := s.size - 16
    let b := x.take z
    let e := x.drop z
    let turn := getF ((b.drop 8).take 8)
    let n := getF ((b.drop 24).take 8)
    if ¬ (b.take 8 = signF ∧ getF ((b.drop 16).take 8) = next) then .error 0
    else if ¬ (getF (e.take 8) = turn ∧ getF (e.drop 8) = (next + 1) % 18446744073709551616) then .error 0
    else if (s.sure.length / 2 - a) * z - 32 < n then .error 0
    else match moreAt s side (secsF z (32 + n) - 1) (a + 1) with
      | .error x => .error x
      | .ok ys => match recsF n (((b ++ ys).drop 32).take n) with
        | none => .error 0
        | some rs => .ok (turn, rs, a + secsF z (32 + n))
end
theorem moreAt_snoc (s : DS) (side : Nat) : ∀ (j a : Nat) (ys xs : List UInt8), moreAt s side j a = .ok ys → secAt s side (a + j) = .ok xs → moreAt s side (j + 1) a = .ok (ys ++ xs.take (s.size - 16))
  | 0, a, ys, xs, h1, h2 => by
    simp only [moreAt, Except.ok.injEq] at h1
    subst h1
    rw [Nat.add_zero] at h2
    simp only [moreAt, h2, List.nil_append, List.append_nil]
  | j + 1, a, ys, xs, h1, h2 => by
    rw [moreAt] at h1 ⊢
    cases h3 : secAt s side a with
    | error x => rw [h3] at h1; cases h1
    | ok x0 =>
      rw [h3] at h1
      simp only at h1 ⊢
      cases h4 : moreAt s side j (a + 1) with
      | error x => rw [h4] at h1; cases h1
      | ok y0 =>
        rw [h4] at h1
        simp only [Except.ok.injEq] at h1
        subst h1
        rw [moreAt_snoc s side j (a + 1) y0 xs h4 (by rw [← h2]; congr 1; omega)]
        simp
theorem moreAt_stop (s : DS) (side : Nat) : ∀ (j k a : Nat) (ys : List UInt8) (x : Int), moreAt s side j a = .ok ys → secAt s side (a + j) = .error x → j < k → moreAt s side k a = .error x
  | _, 0, _, _, _, _, _, hk => by omega
  | 0, k + 1, a, ys, x, h1, h2, _ => by
    rw [Nat.add_zero] at h2
    rw [moreAt, h2]
  | j + 1, k + 1, a, ys, x, h1, h2, hk => by
    rw [moreAt] at h1 ⊢
    cases h3 : secAt s side a with
    | error x => rw [h3] at h1; cases h1
    | ok x0 =>
      rw [h3] at h1
      simp only at h1 ⊢
      cases h4 : moreAt s side j (a + 1) with
      | error x => rw [h4] at h1; cases h1
      | ok y0 => rw [moreAt_stop s side j k (a + 1) y0 x h4 (by rw [← h2]; congr 1; omega) (by omega)]
theorem moreAt_len (s : DS) (hs : s.Ok) (side : Nat) : ∀ (j a : Nat) (ys : List UInt8), moreAt s side j a = .ok ys → ys.length = j * (s.size - 16)
  | 0, a, ys, h1 => by
    simp only [moreAt, Except.ok.injEq] at h1
    subst h1
    simp
  | j + 1, a, ys, h1 => by
    rw [moreAt] at h1
    cases h3 : secAt s side a with
    | error x => rw [h3] at h1; cases h1
    | ok x0 =>
      rw [h3] at h1
      simp only at h1
      cases h4 : moreAt s side j (a + 1) with
      | error x => rw [h4] at h1; cases h1
      | ok y0 =>
        rw [h4] at h1
        simp only [Except.ok.injEq] at h1
        subst h1
        have h5 := secAt_len hs side a x0 h3
        have h6 := moreAt_len s hs side j (a + 1) y0 h4
        rw [List.length_append, List.length_take, h6, Nat.add_mul]
        omega
theorem recsF_nil (f : Nat) : recsF f [] = some [] := by
  cases f <;> simp [recsF]
theorem recsF_step (f : Nat) (xs : List UInt8) (hf : xs.length ≤ f) (h0 : 0 < xs.length) : recsF f xs = if xs.length < 4 then none else
    if xs.length - 4 < getF (xs.take 4) then none else (recsF (f - 1) (xs.drop (4 + getF (xs.take 4)))).map (((xs.drop 4).take (getF (xs.take 4))) :: ·) := by
  cases f with
  | zero => omega
  | succ f =>
    rw [recsF, if_neg (by omega), Nat.add_sub_cancel]
end Go.Proofs.YtekolejeliefdaaGreat
