/- The log: a frame is read, walked. -/
import Derived.Test.YtekolejeliefdaaGreatWalG
set_option linter.unusedVariables false
set_option linter.unusedSimpArgs false
namespace Go.Proofs.YtekolejeliefdaaGreat
open Go.RowKit
variable {X : Nat → Prop}

def sliceLen (v : Value) : Nat := match v with | .slice _ n _ => n | _ => 0
theorem u8s_drop (xs : List UInt8) (k : Nat) : (u8s xs).drop k = u8s (xs.drop k) := by simp [u8s]
theorem u8s_take (xs : List UInt8) (k : Nat) : (u8s xs).take k = u8s (xs.take k) := by simp [u8s]
section
variable {w : World} {v : Value} {n : Nat} {xs : List UInt8}
/-- Parts of a slice of bytes, as the walk takes them. -/
theorem Rd.part_h (h : Rd w 5 1 v n (u8s xs)) (k : Nat) (hk : k ≤ n) : ∃ u, (∀ W, (Instr.slice 114 v none (some (.int .i64 k)) none).run Tryz.prog W = .ok u W) ∧ Rd w 5 1 u k (u8s (xs.take k)) := by
  obtain ⟨u, q, r, _⟩ := h.cut_h (P := Tryz.prog) (t := 114) Tryz.underlying114 Tryz.sizeOf5 k hk
  rw [Nat.mul_one, u8s_take] at r
  exact ⟨u, q, r⟩
theorem Rd.part_l (h : Rd w 5 1 v n (u8s xs)) (k : Nat) (hk : k ≤ n) : ∃ u, (∀ W, (Instr.slice 114 v (some (.int .i64 k)) none none).run Tryz.prog W = .ok u W) ∧ Rd w 5 1 u (n - k) (u8s (xs.drop k)) := by
  obtain ⟨u, q, r, _⟩ := h.cut_l (P := Tryz.prog) (t := 114) Tryz.underlying114 Tryz.sizeOf5 k hk
  rw [Nat.mul_one, u8s_drop] at r
  exact ⟨u, q, r⟩
theorem Rd.part_lh (h : Rd w 5 1 v n (u8s xs)) (l k : Nat) (hl : l ≤ k) (hk : k ≤ n) : ∃ u, (∀ W, (Instr.slice 114 v (some (.int .i64 l)) (some (.int .i64 k)) none).run Tryz.prog W = .ok u W) ∧ Rd w 5 1 u (k - l) (u8s ((xs.drop l).take (k - l))) := by
  obtain ⟨u, q, r, _⟩ := h.cut_lh (P := Tryz.prog) (t := 114) Tryz.underlying114 Tryz.sizeOf5 l k hl hk
  rw [Nat.mul_one, Nat.mul_one, u8s_drop, u8s_take] at r
  exact ⟨u, q, r⟩
theorem Rd.part_lhu (h : Rd w 5 1 v n (u8s xs)) (l k : Nat) (hl : l ≤ k) (hk : k ≤ n) : ∃ u, (∀ W, (Instr.slice 114 v (some (.int .i64 l)) (some (.int .u64 k)) none).run Tryz.prog W = .ok u W) ∧ Rd w 5 1 u (k - l) (u8s ((xs.drop l).take (k - l))) := by
  obtain ⟨a, c, rfl⟩ := h.form
  have := h.n_le_cap
  have h2 := h.sliced l k hl hk
  rw [Nat.mul_one, Nat.mul_one, u8s_drop, u8s_take] at h2
  refine ⟨_, fun W => ?_, h2.1⟩
  have he : (Tryz.prog).elem 114 = 5 := by simp [Program.elem, Tryz.underlying114]
  rw [run_slice_lh W 114 a n c (by rw [he]; exact Tryz.underlying114) .i64 .u64 l k (by omega) (by omega) (by omega), he, Tryz.sizeOf5]
  rfl
theorem Rd.part_lu (h : Rd w 5 1 v n (u8s xs)) (l : Nat) (hl : l ≤ n) : ∃ u, (∀ W, (Instr.slice 114 v (some (.int .u64 l)) none none).run Tryz.prog W = .ok u W) ∧ Rd w 5 1 u (n - l) (u8s (xs.drop l)) := by
  obtain ⟨a, c, rfl⟩ := h.form
  have h2 := h.sliced l n hl (Nat.le_refl _)
  rw [List.take_of_length_le (by rw [List.length_drop, h.1]; omega), Nat.mul_one, u8s_drop] at h2
  refine ⟨_, fun W => ?_, h2.1⟩
  have he : (Tryz.prog).elem 114 = 5 := by simp [Program.elem, Tryz.underlying114]
  have := h.n_le_cap
  rw [run_slice_l W 114 a n c (by rw [he]; exact Tryz.underlying114) .u64 l (by omega) (by omega), he, Tryz.sizeOf5]
  rfl
theorem Rd.str' (h : Rd w 5 1 v n (u8s xs)) (h0 : 0 < n) : (Go.convert 114 9 v).run Tryz.prog w = .ok (.string ⟨xs.toArray⟩) w := by
  have hl : xs.length = n := by have := h.1; simpa [u8s] using this
  have hs : (⟨xs.toArray⟩ : ByteArray).size = n := hl
  obtain ⟨b, off, c, rfl, _, h2⟩ := h.cell h0
  have := Lib.run_convert_whole (P := Tryz.prog) w 114 5 9 Tryz.underlying114 Tryz.underlying5 Tryz.underlying9 b off ⟨xs.toArray⟩ (fun i hi => ?_) c
  · rw [hs] at this
    exact this
  · have hi' : i < xs.length := by omega
    rw [h2 i (by omega)]
    simp only [u8s, List.getElem?_map, List.getElem?_eq_getElem hi', Option.map_some, Proofs.YtekolejeliefdaaGreat.u8]
    rfl
end

section
variable {w : World} {lp um p g m : Nat} {l : LS} {s : DS}
theorem secs_pos {z n : Nat} (h0 : 0 < n) : 1 ≤ secsF z n := by
  have h1 := Nat.div_add_mod n z
  unfold secsF
  rcases Nat.eq_zero_or_pos (n % z) with h2 | h2
  · rcases Nat.eq_zero_or_pos (n / z) with h3 | h3
    · rw [h2, h3, Nat.mul_zero] at h1
      omega
    · exact Nat.le_trans h3 (Nat.le_add_right _ _)
  · have : 1 ≤ min (n % z) 1 := by omega
    exact Nat.le_trans this (Nat.le_add_left _ _)
/-- What an append leaves: blocks of cells of another type. -/
theorem grown_keepT {w w1 : World} {B : Nat} {e e' : TypeId} {k n : Nat} {v : Value} {cs : List Value} (ho : w.ownsRow B e k v n cs) (h : w.grownBy w1 v.ownBlock) (hne : e' ≠ e) : KeepT e' w w1 := by
  intro b cur fr hq
  refine (h.block b (lt_of_heap hq) ?_).trans hq
  intro e1
  rcases ho.2 with ⟨rfl, _⟩ | ⟨g, cap, cc, rfl, _, hg, _⟩
  · simp [Value.ownBlock] at e1
  · simp only [Value.ownBlock, Option.some.injEq] at e1
    subst e1
    rw [hg] at hq
    simp only [Option.some.injEq, Obj.cells.injEq] at hq
    exact hne hq.2.1.symm
theorem RecsAt.snoc {w : World} {cs : List Value} {rs : List (List UInt8)} {v : Value} {r : List UInt8} (h : RecsAt w cs rs) (hv : Rd w 5 1 v r.length (u8s r)) : RecsAt w (cs ++ [v]) (rs ++ [r]) := by
  refine ⟨by simp [h.1], fun i u q h1 h2 => ?_⟩
  rcases Nat.lt_or_ge i rs.length with hi | hi
  · rw [List.getElem?_append_left (by rw [h.1]; exact hi)] at h1
    rw [List.getElem?_append_left hi] at h2
    exact h.2 i u q h1 h2
  · rw [List.getElem?_append_right hi] at h2
    rw [List.getElem?_append_right (by rw [h.1]; exact hi), h.1] at h1
    rcases Nat.eq_zero_or_pos (i - rs.length) with h0 | h0
    · rw [h0] at h1 h2
      simp at h1 h2
      subst h1 h2
      exact hv
    · rw [List.getElem?_eq_none (by simp; omega)] at h2
      cases h2
/-- A block of one cell, new. -/
theorem Rd.one (w : World) (v : Value) (e : TypeId) : Rd (w.alloc (.cells #[v] e)) e 1 (.slice (some ⟨w.heap.size, 0, none⟩) 1 1) 1 [v] :=
  ⟨rfl, by simp [maxLen], 1, .inr ⟨_, 0, rfl, Nat.le_refl _, .inr ⟨_, (0, 0), heap_alloc_new w _, rfl⟩⟩⟩
/-- What opening a frame comes to. -/
def OpenPost (o : Except Int (Nat × List (List UInt8) × Nat)) (w : World) (e : Ending) (w' : World) : Prop :=
  (match o with
  | .ok r => ∃ v cs, e = .returned (.tuple #[.int .u64 (r.1 : Nat), v, .int .i64 (r.2.2 : Nat)]) ∧ w'.ownsRow w.heap.size 114 1 v r.2.1.length cs ∧ RecsAt w' cs r.2.1
  | .error x => e = .panicked [{ v := stopV x, recovered := false }]) ∧ Below w.heap.size w w'
set_option maxRecDepth 100000 in
set_option maxHeartbeats 4000000 in
theorem open_any (h : LogAt X w lp um l p g m s) (hz : 128 ≤ s.size) (side a next : Nat) (hs : side ≤ 1) (ha : a ≤ 4096) (hn : next < 18446744073709551616) :
    Calls Tryz.prog 86 #[.pointer (some ⟨lp, 0, none⟩), .int .i64 side, .int .i64 a, .int .u64 next] w fun e w' =>
      OpenPost (openF s side a next) w e w' := by
  have hsec := sector_any h side a hs (by omega)
  cases hx : secAt s side a with
  | error x =>
    have HO : openF s side a next = .error x := by unfold openF; rw [hx]
    rw [HO]
    have hsec' : Calls Tryz.prog 128 #[.pointer (some ⟨lp, 0, none⟩), .int .i64 side, .int .i64 a] w fun e w' => e = .panicked [{ v := stopV x, recovered := false }] ∧ Hid (Below w.heap.size w w') := by
      refine hsec.mono ?_
      rintro e w' ⟨_, h2, h3⟩
      exact ⟨h2 x hx, h3⟩
    have HS := Lib.hid hsec'
    clear hsec hsec' h hx HO
    go_enter Tryz.func86, Tryz.ntmps86
    go_wp2_with (go_at_call 128; refine HS.out.mono ?_; rintro e w' ⟨rfl, hb⟩)
    exact ⟨rfl, rfl, hb.out⟩
  | ok x =>
    obtain ⟨hxl, hal⟩ := secAt_len h.disk.ok side a x hx
    have hsec' : Calls Tryz.prog 128 #[.pointer (some ⟨lp, 0, none⟩), .int .i64 side, .int .i64 a] w fun e w' => ∃ v, e = .returned v ∧ Hid (Rd w' 5 1 v s.size (u8s x) ∧ Below w.heap.size w w' ∧ LogAt X w' lp um l p g m s) := by
      refine hsec.mono ?_
      rintro e w' ⟨h1, _, h3⟩
      obtain ⟨v, rfl, ho⟩ := h1 x hx
      have hx' : Ext (fun _ => False) w w' := Ext.of_below h3 (Nat.le_refl _)
      exact ⟨v, rfl, hxl ▸ Rd.of_own ho, h3, h.past hx' ⟨id, id, id, id, id⟩ (hx'.keepT (fun _ _ _ _ => id))⟩
    have HS := Lib.hid hsec'
    have hz2 := h.disk.ok.z2
    obtain ⟨z, hzz⟩ : ∃ z, s.size - 16 = z := ⟨_, rfl⟩
    clear hsec hsec'
    go_enter Tryz.func86, Tryz.ntmps86
    go_wp2_with (go_at_call 128; refine HS.out.mono ?_; rintro e w1 ⟨v, rfl, H1⟩)
    obtain ⟨vb, qb, rb⟩ := H1.out.1.part_h z (by omega)
    obtain ⟨ve, qe, re⟩ := H1.out.1.part_l z (by omega)
    obtain ⟨v1, q1, r1⟩ := rb.part_lh 8 16 (by omega) (by omega)
    obtain ⟨v2, q2, r2⟩ := rb.part_lh 24 32 (by omega) (by omega)
    obtain ⟨v3, q3, r3⟩ := rb.part_lh 16 24 (by omega) (by omega)
    obtain ⟨v4, q4, r4⟩ := rb.part_h 8 (by omega)
    obtain ⟨v5, q5, r5⟩ := re.part_h 8 (by omega)
    obtain ⟨v6, q6, r6⟩ := re.part_l 8 (by omega)
    have q1' : ∀ W, (Instr.slice 114 vb (some (.int .i64 8)) (some (.int .i64 16)) none).run Tryz.prog W = .ok v1 W := q1
    have q2' : ∀ W, (Instr.slice 114 vb (some (.int .i64 24)) (some (.int .i64 32)) none).run Tryz.prog W = .ok v2 W := q2
    have q3' : ∀ W, (Instr.slice 114 vb (some (.int .i64 16)) (some (.int .i64 24)) none).run Tryz.prog W = .ok v3 W := q3
    have q4' : ∀ W, (Instr.slice 114 vb none (some (.int .i64 8)) none).run Tryz.prog W = .ok v4 W := q4
    have q5' : ∀ W, (Instr.slice 114 ve none (some (.int .i64 8)) none).run Tryz.prog W = .ok v5 W := q5
    have q6' : ∀ W, (Instr.slice 114 ve (some (.int .i64 8)) none none).run Tryz.prog W = .ok v6 W := q6
    have hsz := size_any' H1.out.2.2.drew
    rw [hzz] at hsz
    have HSZ := Lib.hid hsz
    have hk2 : ∀ (b : Nat) (cur : Array Value) (fr : Nat × Nat), w1.heap[b]? = some (Obj.cells cur 5 fr) → w1.drew.drew.heap[b]? = some (Obj.cells cur 5 fr) := fun _ _ _ h => h
    have HG1 := Lib.hid (get_any (r1.kept hk2))
    have HG2 := Lib.hid (get_any (r2.kept hk2))
    have HG3 := Lib.hid (get_any (r3.kept hk2))
    have HG5 := Lib.hid (get_any (r5.kept hk2))
    have HG6 := Lib.hid (get_any (r6.kept hk2))
    have hs4 := (r4.kept (w1 := w1.drew.drew) hk2).str' (by omega)
    have HRB := Lib.hid rb
    have hS0 : True := trivial
    clear q1 q2 q3 q4 q5 q6 r1 r2 r3 r4 r5 r6 re rb hsz hk2
    refine region_X (fun W => True) (by kernel_rfl) ?_
    simp only [List.length_cons, List.length_nil, Nat.reduceAdd]
    refine AnyX.take 0 rfl (by kernel_rfl) (fun _ _ _ h => h) hS0 rfl (by rintro W _; go_simp; rfl) ?_; simp only [Act.put, List.setIfInBounds_toArray, List.set_cons_succ, List.set_cons_zero]
    refine AnyX.take 1 rfl (by kernel_rfl) (fun _ _ _ h => h) hS0 rfl (by rintro W _; go_simp; rfl) ?_; simp only [Act.put, List.setIfInBounds_toArray, List.set_cons_succ, List.set_cons_zero]
    refine AnyX.take 4 rfl (by kernel_rfl) (fun _ _ _ h => h) hS0 rfl (by rintro W _; go_simp; rfl) ?_; simp only [Act.put, List.setIfInBounds_toArray, List.set_cons_succ, List.set_cons_zero]
    refine AnyX.take 5 rfl (by kernel_rfl) (fun _ _ _ h => h) hS0 rfl (by rintro W _; go_simp; rfl) ?_; simp only [Act.put, List.setIfInBounds_toArray, List.set_cons_succ, List.set_cons_zero]
    refine AnyX.act 2 rfl (by kernel_rfl) rfl (fun K hK => ?_)
    go_wp2_with (go_at_call 129; refine HSZ.out.mono ?_; rintro e w' ⟨rfl, rfl⟩)
    refine hK _ _ hS0 ?_
    clear hK K
    refine AnyX.take 3 rfl (by kernel_rfl) (fun _ _ _ h => h) hS0 rfl (by rintro W _; go_simp; rfl) ?_; simp only [Act.put, List.setIfInBounds_toArray, List.set_cons_succ, List.set_cons_zero]
    refine AnyX.act 6 rfl (by kernel_rfl) rfl (fun K hK => ?_)
    go_wp2_with (go_at_call 129; refine HSZ.out.mono ?_; rintro e w' ⟨rfl, rfl⟩)
    refine hK _ _ hS0 ?_
    clear hK K
    refine AnyX.take 7 rfl (by kernel_rfl) (fun _ _ _ h => h) hS0 rfl (by rintro W _; go_simp; rfl) ?_; simp only [Act.put, List.setIfInBounds_toArray, List.set_cons_succ, List.set_cons_zero]
    refine AnyX.take 8 rfl (by kernel_rfl) (fun _ _ _ h => h) hS0 rfl (by rintro W _; go_simp; rfl) ?_; simp only [Act.put, List.setIfInBounds_toArray, List.set_cons_succ, List.set_cons_zero]
    refine AnyX.end_ 9 rfl (by kernel_rfl) (by kernel_rfl) (by kernel_rfl) rfl ?_
    go_wp2_with fail
    refine region_X (fun W => True) (by kernel_rfl) ?_
    simp only [List.length_cons, List.length_nil, Nat.reduceAdd]
    refine AnyX.take 0 rfl (by kernel_rfl) (fun _ _ _ h => h) hS0 rfl (by rintro W _; go_simp; rfl) ?_; simp only [Act.put, List.setIfInBounds_toArray, List.set_cons_succ, List.set_cons_zero]
    refine AnyX.take 1 rfl (by kernel_rfl) (fun _ _ _ h => h) hS0 rfl (by rintro W _; go_simp; rfl) ?_; simp only [Act.put, List.setIfInBounds_toArray, List.set_cons_succ, List.set_cons_zero]
    refine AnyX.take 3 rfl (by kernel_rfl) (fun _ _ _ h => h) hS0 rfl (by rintro W _; go_simp; rfl) ?_; simp only [Act.put, List.setIfInBounds_toArray, List.set_cons_succ, List.set_cons_zero]
    refine AnyX.take 4 rfl (by kernel_rfl) (fun _ _ _ h => h) hS0 rfl (by rintro W _; go_simp; rfl) ?_; simp only [Act.put, List.setIfInBounds_toArray, List.set_cons_succ, List.set_cons_zero]
    refine AnyX.act 2 rfl (by kernel_rfl) rfl (fun K hK => ?_)
    go_wp2_with (go_at_call 130; refine HG1.out.mono ?_; rintro e w' ⟨rfl, rfl⟩)
    refine hK _ _ hS0 ?_
    clear hK K
    refine AnyX.act 5 rfl (by kernel_rfl) rfl (fun K hK => ?_)
    go_wp2_with (go_at_call 130; refine HG2.out.mono ?_; rintro e w' ⟨rfl, rfl⟩)
    refine hK _ _ hS0 ?_
    clear hK K
    refine AnyX.take 6 rfl (by kernel_rfl) (fun _ _ _ h => h) hS0 rfl (by rintro W _; go_simp; rfl) ?_; simp only [Act.put, List.setIfInBounds_toArray, List.set_cons_succ, List.set_cons_zero]
    refine AnyX.end_ 7 rfl (by kernel_rfl) (by kernel_rfl) (by kernel_rfl) rfl ?_
    have hopen : openF s side a next = if ¬ ((x.take z).take 8 = signF ∧ getF (((x.take z).drop 16).take 8) = next) then .error 0
        else if ¬ (getF ((x.drop z).take 8) = getF (((x.take z).drop 8).take 8) ∧ getF ((x.drop z).drop 8) = (next + 1) % 18446744073709551616) then .error 0
        else if (s.sure.length / 2 - a) * z - 32 < getF (((x.take z).drop 24).take 8) then .error 0
        else match moreAt s side (secsF z (32 + getF (((x.take z).drop 24).take 8)) - 1) (a + 1) with
          | .error x => .error x
          | .ok ys => match recsF (getF (((x.take z).drop 24).take 8)) (((x.take z ++ ys).drop 32).take (getF (((x.take z).drop 24).take 8))) with
            | none => .error 0
            | some rs => .ok (getF (((x.take z).drop 8).take 8), rs, a + secsF z (32 + getF (((x.take z).drop 24).take 8))) := by
      unfold openF
      rw [hx, hzz]
      rfl
    have HOPEN := Lib.hid hopen
    have hbl := H1.out.2.1.drew.drew
    have HBL := Lib.hid hbl
    have HNO := Lib.hid (must_no 0 w1.drew.drew)
    have HOK := Lib.hid (must_ok 0 w1.drew.drew)
    clear hopen hbl
    by_cases hsig : (x.take z).take 8 = [65, 85, 71, 85, 82, 76, 79, 71]
    · obtain ⟨G3, hG3⟩ : ∃ G, getF (((x.take z).drop 16).take 8) = G := ⟨_, rfl⟩
      have HG3' : Calls Tryz.prog 130 #[v3] w1.drew.drew fun e w' => e = .returned (.int .u64 (G3 : Nat)) ∧ w1.drew.drew = w' := by
        rw [← hG3]
        exact HG3.out
      have HG3 := Lib.hid HG3'
      have HGE := Lib.hid hG3
      clear HG3' hG3
      by_cases h3 : G3 = next
      · subst h3
        obtain ⟨T, hT⟩ : ∃ G, getF (((x.take z).drop 8).take 8) = G := ⟨_, rfl⟩
        obtain ⟨G5, hG5⟩ : ∃ G, getF ((x.drop z).take 8) = G := ⟨_, rfl⟩
        obtain ⟨G6, hG6⟩ : ∃ G, getF ((x.drop z).drop 8) = G := ⟨_, rfl⟩
        obtain ⟨N, hN⟩ : ∃ G, getF (((x.take z).drop 24).take 8) = G := ⟨_, rfl⟩
        rw [hT, hN]
        have h5' : Calls Tryz.prog 130 #[v5] w1.drew.drew fun e w' => e = .returned (.int .u64 (G5 : Nat)) ∧ w1.drew.drew = w' := by rw [← hG5]; exact HG5.out
        have h6' : Calls Tryz.prog 130 #[v6] w1.drew.drew fun e w' => e = .returned (.int .u64 (G6 : Nat)) ∧ w1.drew.drew = w' := by rw [← hG6]; exact HG6.out
        have HG5' := Lib.hid h5'
        have HG6' := Lib.hid h6'
        have HO := Lib.hid (And.intro hT (And.intro hG5 (And.intro hG6 hN)))
        clear h5' h6' hT hG5 hG6 hN
        go_wp2_with fail
        refine HG3.out.mono ?_
        rintro e w' ⟨rfl, rfl⟩
        go_wp2_with (go_at_call 87; refine HOK.out.mono ?_; rintro e w' ⟨rfl, rfl⟩)
        refine HG5'.out.mono ?_
        rintro e w' ⟨rfl, rfl⟩
        obtain ⟨NX, hNX⟩ : ∃ NX, (G3 + 1) % 18446744073709551616 = NX := ⟨_, rfl⟩
        have hnx : IntKind.u64.wrap ((G3 : Int) + 1) = (NX : Int) := by rw [IntKind.wrap_u64]; omega
        have HNX := Lib.hid hNX
        clear hNX
        by_cases h5 : G5 = T
        · subst h5
          by_cases h6 : G6 = NX
          · subst h6
            go_wp2_with fail
            refine HG6'.out.mono ?_
            rintro e w' ⟨rfl, rfl⟩
            go_wp2_with (go_at_call 87; refine HOK.out.mono ?_; rintro e w' ⟨rfl, rfl⟩)
            have hmo := most_any H1.out.2.2.drew.drew a (by omega)
            have hMb : (s.sure.length / 2 - a) * (s.size - 16) ≤ 2048 * 4096 := Nat.mul_le_mul (by have := h.disk.ok.n2; omega) (by omega)
            have hMl : 1 * 112 ≤ (s.sure.length / 2 - a) * (s.size - 16) := Nat.mul_le_mul (by omega) (by omega)
            obtain ⟨M, hM⟩ : ∃ M, (s.sure.length / 2 - a) * (s.size - 16) = M := ⟨_, rfl⟩
            rw [hM] at hmo hMb hMl
            have hMb2 : M ≤ 8388608 := by omega
            have hMl2 : 112 ≤ M := by omega
            have HMO := Lib.hid hmo
            have HM := Lib.hid hM
            clear hmo hM hMb hMl
            refine HMO.out.mono ?_
            rintro e w' ⟨rfl, rfl⟩
            by_cases hNM : N ≤ M - 32
            · have hNM' : (N : Int) ≤ (M : Int) - 32 := by omega
              obtain ⟨Q, hQ⟩ : ∃ Q, 32 + N = Q := ⟨_, rfl⟩
              have hQi : (32 : Int) + (N : Int) = (Q : Int) := by omega
              have hse := sectors_any' H1.out.2.2.drew.drew Q (by omega)
              rw [hzz] at hse
              obtain ⟨K1, hK1⟩ : ∃ K, secsF z Q = K := ⟨_, rfl⟩
              rw [hK1] at hse
              have hfit : a + K1 ≤ s.sure.length / 2 := by
                have h1 := secs_fit (z := z) (n := Q) (x := s.sure.length / 2 - a) (by omega) (by rw [← hzz, HM.out]; omega)
                omega
              have hN4 := h.disk.ok.n2
              have hfit2 : a + K1 ≤ 2048 := by omega
              have HSE := Lib.hid hse
              have HK := Lib.hid (And.intro hK1 (And.intro hfit hQ))
              clear hse hK1 hfit hQ
              go_wp2_with (first | (go_at_call 87; refine HOK.out.mono ?_; rintro e w' ⟨rfl, rfl⟩) | (go_at_call 132; refine HSE.out.mono ?_; rintro e w' ⟨rfl, rfl⟩))
              have hcl := cloneB_any (w := w1.drew.drew.drew) (HRB.out.kept (fun _ _ _ h => h)) (u8s_oneCell _) (by omega)
              have hcl' : Calls Tryz.prog 133 #[vb] w1.drew.drew.drew fun e w' => ∃ vc, e = .returned vc ∧ Hid (w'.ownsRow w1.heap.size 5 1 vc z (u8s (x.take z)) ∧ Below w1.heap.size w1 w') := by
                refine hcl.mono ?_
                rintro e w' ⟨vc, rfl, ho, hb⟩
                exact ⟨vc, rfl, ho, (((Below.refl _ w1).drew).drew).drew.trans hb⟩
              have HCL := Lib.hid hcl'
              clear hcl hcl'
              refine HCL.out.mono ?_
              rintro e w2 ⟨vc, rfl, H2⟩
              go_wp2_with fail
              have H0 : Hid (∃ ys, moreAt s side 0 (a + 1) = .ok ys ∧ w2.ownsRow w1.heap.size 5 1 vc (z + 0 * z) (u8s (x.take z ++ ys)) ∧ Below w1.heap.size w1 w2) :=
                ⟨[], rfl, by simpa using H2.out.1, H2.out.2⟩
              have hK1p : 1 ≤ K1 := by
                have h1 := secs_pos (z := z) (n := Q) (by omega)
                rw [HK.out.1] at h1
                exact h1
              go_loopw [12, 17] (fun bv i wr => ∃ j I : Nat, j < K1 ∧ i = .int .i64 I ∧ Hid (I = a + 1 + j ∧ ∃ ys, moreAt s side j (a + 1) = .ok ys ∧ wr.ownsRow w1.heap.size 5 1 bv (z + j * z) (u8s (x.take z ++ ys)) ∧ Below w1.heap.size w1 wr)) (fun _ i _ => a + K1 - (intOf i).toNat)
              case atStart => exact ⟨0, a + 1, by omega, ret_value (by omega), rfl, H0⟩
              case round =>
                obtain ⟨j, I, hj, rfl, hin⟩ := hrel
                obtain ⟨hI, ys, hys, hown, hbw⟩ := hin.out
                have hI2 : (I : Int) = (a : Int) + 1 + j := by omega
                by_cases hjl : j + 1 < K1
                · have hxw : Ext (fun _ => False) w1 wr := Ext.of_below hbw (Nat.le_refl _)
                  have hLw := H1.out.2.2.past hxw ⟨id, id, id, id, id⟩ (hxw.keepT (fun _ _ _ _ => id))
                  have hse := sector_any hLw side I hs (by omega)
                  have hil : (I : Int) < (a : Int) + (K1 : Int) := by omega
                  cases hxs : secAt s side I with
                  | error xe =>
                    have hse' : Calls Tryz.prog 128 #[.pointer (some ⟨lp, 0, none⟩), .int .i64 side, .int .i64 I] wr fun e w' => e = .panicked [{ v := stopV xe, recovered := false }] ∧ Hid (OpenPost (openF s side a G3) w e w') := by
                      refine hse.mono ?_
                      rintro e w' ⟨_, h2, h3⟩
                      have he := h2 xe hxs
                      refine ⟨he, ?_⟩
                      have hst := moreAt_stop s side j (K1 - 1) (a + 1) ys xe hys (by rw [← hxs, hI]) (by omega)
                      rw [HOPEN.out, if_neg (fun q => q ⟨hsig, HGE.out⟩), if_neg (fun q => q ⟨by rw [HO.out.2.1, HO.out.1], by rw [HO.out.2.2.1, HNX.out]⟩), if_neg (by rw [HO.out.2.2.2, ← hzz, HM.out]; omega), HO.out.2.2.2, HK.out.2.2, HK.out.1, hst]
                      exact ⟨he, (H1.out.2.1.trans (hbw.mono H1.out.2.1.size)).trans (h3.mono (Nat.le_trans H1.out.2.1.size hbw.size))⟩
                    have HSE' := Lib.hid hse'
                    clear hse hse' hLw hxw hown hys hbw hI hin hI2
                    go_wp2_with fail
                    refine HSE'.out.mono ?_
                    rintro e w' ⟨rfl, hp⟩
                    exact ⟨rfl, hp.out⟩
                  | ok xs =>
                    have hxsl := (secAt_len h.disk.ok side I xs hxs).1
                    have hse' : Calls Tryz.prog 128 #[.pointer (some ⟨lp, 0, none⟩), .int .i64 side, .int .i64 I] wr fun e w' => ∃ sv vp, e = .returned sv ∧ (∀ W, (Instr.slice 114 sv none (some (.int .i64 z)) none).run Tryz.prog W = .ok vp W) ∧
                        Hid (Calls Tryz.prog 129 #[.pointer (some ⟨lp, 0, none⟩)] w' (fun e w2 => e = .returned (.int .i64 z) ∧ w' = w2)) ∧ Hid (Rd w' 5 1 vp z (u8s (xs.take z)) ∧ w'.ownsRow w1.heap.size 5 1 u12 (z + j * z) (u8s (x.take z ++ ys)) ∧ Below w1.heap.size w1 w') := by
                      refine hse.mono ?_
                      rintro e w' ⟨h1, _, h3⟩
                      obtain ⟨sv, rfl, ho⟩ := h1 xs hxs
                      rw [hxsl] at ho
                      obtain ⟨vp, qp, rp⟩ := (Rd.of_own ho).part_h z (by omega)
                      have hx3 : Ext (fun _ => False) wr w' := Ext.of_below h3 (Nat.le_refl _)
                      have hL3 := size_any' (hLw.past hx3 ⟨id, id, id, id, id⟩ (hx3.keepT (fun _ _ _ _ => id)))
                      rw [hzz] at hL3
                      exact ⟨sv, vp, rfl, qp, hL3, rp, own_keep hown (hx3.keepT (fun _ _ _ _ => id)), hbw.trans (h3.mono hbw.size)⟩
                    have HSE' := Lib.hid hse'
                    have hjz : j * z ≤ 2048 * 4096 := Nat.mul_le_mul (by omega) (by omega)
                    obtain ⟨JZ, hJZ⟩ : ∃ JZ, z + j * z = JZ := ⟨_, rfl⟩
                    rw [hJZ] at HSE'
                    have hJZ2 : JZ ≤ 16777216 := by omega
                    have HY := Lib.hid (And.intro hys (And.intro hI (And.intro hxs hJZ)))
                    have hone : ∀ (l : List UInt8), ∀ u ∈ u8s l, u.oneCell' = true := u8s_oneCell
                    have HONE := Lib.hid hone
                    clear hse hse' hLw hxw hown hys hbw hI hin hI2 hone hJZ hjz hxs hxsl
                    go_wp2_with fail
                    refine HSE'.out.mono ?_
                    rintro e w3 ⟨sv, vp, rfl, qp, HSZ3, H3⟩
                    go_wp2_with fail
                    refine HSZ3.out.mono ?_
                    rintro e w' ⟨rfl, rfl⟩
                    go_wp2_with (at_builtin; refine wpList_app rfl (.tmp 89) (.tmp 96) 114 rfl w1.heap.size 5 1 1 (.int .u8 0) Tryz.underlying114 (by kernel_rfl) rfl (by omega) u12 JZ (u8s (x.take z ++ ys)) rfl H3.out.2.1 _ z (u8s (xs.take z)) 5 rfl H3.out.1 (HONE.out _) (by simp only [maxLen]; omega) (by omega) H3.out.2.2.size ?_; intro v7 w4 o1 o2 _)
                    have hb4 : Below w1.heap.size w1 w4 := H3.out.2.2.grown o2 H3.out.2.2.size (fun k hk => (H3.out.2.1.lt k hk).1)
                    refine ⟨⟨j + 1, I + 1, hjl, ret_value (by omega), ?_, ys ++ xs.take z, ?_, ?_, hb4⟩, by simp [intOf]; omega⟩
                    · have := HY.out.2.1
                      omega
                    · have h1 := moreAt_snoc s side j (a + 1) ys xs HY.out.1 (by rw [← HY.out.2.2.1, HY.out.2.1])
                      rw [hzz] at h1
                      exact h1
                    · have h2 : z + (j + 1) * z = JZ + z := by
                        have := HY.out.2.2.2
                        rw [Nat.add_mul]
                        omega
                      rw [h2]
                      have h3 : u8s (x.take z ++ (ys ++ xs.take z)) = u8s (x.take z ++ ys) ++ u8s (xs.take z) := by simp [u8s]
                      rw [h3]
                      exact o1
                · obtain rfl : K1 = j + 1 := by omega
                  have hQle : Q ≤ z + j * z := by
                    have h1 := HK.out.1
                    have h2 := Nat.div_add_mod Q z
                    unfold secsF at h1
                    have h3 : Q % z < z := Nat.mod_lt _ (by omega)
                    rcases Nat.eq_zero_or_pos (Q % z) with h4 | h4
                    · have h5 : Q / z = j + 1 := by omega
                      rw [h5, Nat.mul_add, Nat.mul_comm z j] at h2
                      omega
                    · have h5 : Q / z = j := by omega
                      rw [h5, Nat.mul_comm z j] at h2
                      omega
                  obtain ⟨vr, qr, rr⟩ := (Rd.of_own hown).part_lh 32 Q (by have := HK.out.2.2; omega) hQle
                  have qr' : ∀ W, (Instr.slice 114 u12 (some (.int .i64 32)) (some (.int .i64 (Q : Int))) none).run Tryz.prog W = .ok vr W := qr
                  have HRR := Lib.hid (And.intro rr (And.intro hys hbw))
                  clear qr rr hown hys hbw hin hQle
                  have hbody : (((x.take z ++ ys).drop 32).take N).length = N := by
                    have h1 := moreAt_len s h.disk.ok side j (a + 1) ys HRR.out.2.1
                    rw [hzz] at h1
                    have h2 := HRR.out.1.1
                    simp only [u8s, List.length_map] at h2
                    have h3 := HK.out.2.2
                    have h4 : Q - 32 = N := by omega
                    rw [h4] at h2
                    omega
                  have hst : Hid (∃ (f : Nat) (rest : List UInt8) (outs : List (List UInt8)) (cs : List Value), recsF N (((x.take z ++ ys).drop 32).take N) = (recsF f rest).map (outs ++ ·) ∧ rest.length = N ∧ (rest.length ≤ f ∧ rest.length + 4 * outs.length ≤ N) ∧ Rd wr 5 1 vr rest.length (u8s rest) ∧ wr.ownsRow w1.heap.size 114 1 (.slice none 0 0) outs.length cs ∧ RecsAt wr cs outs ∧ Below w1.heap.size w1 wr) := by
                    refine ⟨N, _, [], [], ?_, hbody, ⟨by omega, by rw [hbody]; simp⟩, ?_, ⟨rfl, .inl ⟨rfl, rfl⟩⟩, ⟨rfl, by intro i v r h1; simp at h1⟩, HRR.out.2.2⟩
                    · simp
                    · have h4 : Q - 32 = N := by have := HK.out.2.2; omega
                      have h5 := HRR.out.1
                      rw [h4] at h5
                      rw [hbody]
                      exact h5
                  go_wp2_with fail
                  go_loopw [18, 19] (fun ov rv wr => ∃ c : Nat, Hid (∃ (f : Nat) (rest : List UInt8) (outs : List (List UInt8)) (cs : List Value), recsF N (((x.take z ++ ys).drop 32).take N) = (recsF f rest).map (outs ++ ·) ∧ rest.length = c ∧ (rest.length ≤ f ∧ rest.length + 4 * outs.length ≤ N) ∧ Rd wr 5 1 rv rest.length (u8s rest) ∧ wr.ownsRow w1.heap.size 114 1 ov outs.length cs ∧ RecsAt wr cs outs ∧ Below w1.heap.size w1 wr)) (fun _ rv _ => sliceLen rv)
                  case atStart => exact ⟨N, hst⟩
                  case round =>
                    obtain ⟨c, hc⟩ := hrel
                    obtain ⟨f, rest, outs, cs, hrec, hrl, hrf, hrd, hro, hra, hbl2⟩ := hc.out
                    obtain ⟨ra, rc, rfl⟩ := hrd.form
                    by_cases hr0 : rest.length = 0
                    · obtain rfl : rest = [] := List.eq_nil_of_length_eq_zero hr0
                      have HRES := Lib.hid (And.intro hrec (And.intro hro (And.intro hra hbl2)))
                      clear hrec hro hra hbl2 hrd hc hst hrf hrl hr0
                      go_wp2_with fail
                      go_ret3
                      obtain ⟨hrec, hro, hra, hbl2⟩ := HRES.out
                      rw [recsF_nil] at hrec
                      simp only [Option.map_some, List.append_nil] at hrec
                      rw [HOPEN.out, if_neg (fun q => q ⟨hsig, HGE.out⟩), if_neg (fun q => q ⟨by rw [HO.out.2.1, HO.out.1], by rw [HO.out.2.2.1, HNX.out]⟩), if_neg (by rw [HO.out.2.2.2, ← hzz, HM.out]; omega), HO.out.2.2.2, HK.out.2.2, HK.out.1, Nat.add_sub_cancel, HRR.out.2.1]
                      simp only [hrec]
                      refine ⟨⟨_, cs, by rw [HO.out.1]; rfl, own_mono hro H1.out.2.1.size, hra⟩, H1.out.2.1.trans (hbl2.mono H1.out.2.1.size)⟩
                    · have hstep := recsF_step f rest hrf.1 (by omega)
                      have hr2 : rest.length ≤ 16777216 := by have h1 := hrf.2; omega
                      by_cases h4 : 4 ≤ rest.length
                      · have h4' : (4 : Int) ≤ (rest.length : Int) := by omega
                        obtain ⟨v7, q7, r7⟩ := hrd.part_h 4 h4
                        have q7' : ∀ W, (Instr.slice 114 (.slice ra rest.length rc) none (some (.int .i64 4)) none).run Tryz.prog W = .ok v7 W := q7
                        obtain ⟨KK, hKK⟩ : ∃ G, getF (rest.take 4) = G := ⟨_, rfl⟩
                        have hg7 := get_any r7
                        rw [hKK] at hg7 hstep
                        have HG7 := Lib.hid hg7
                        have HOK2 := Lib.hid (must_ok 0 wr)
                        by_cases hK : KK ≤ rest.length - 4
                        · have hK' : (KK : Int) ≤ (rest.length : Int) - 4 := by omega
                          obtain ⟨KQ, hKQ⟩ : ∃ KQ, 4 + KK = KQ := ⟨_, rfl⟩
                          have hKQi : (4 : Int) + (KK : Int) = (KQ : Int) := by omega
                          obtain ⟨v8, q8, r8⟩ := hrd.part_lhu 4 KQ (by omega) (by omega)
                          obtain ⟨v9, q9, r9⟩ := hrd.part_lu KQ (by omega)
                          obtain ⟨a9, c9, rfl⟩ := r9.form
                          have q8' : ∀ W, (Instr.slice 114 (.slice ra rest.length rc) (some (.int .i64 4)) (some (.int .u64 (KQ : Int))) none).run Tryz.prog W = .ok v8 W := q8
                          have HALL := Lib.hid (And.intro hrec (And.intro hstep (And.intro hro (And.intro hra (And.intro hbl2 (And.intro hKQ (And.intro hrf hrl)))))))
                          have HR8 := Lib.hid (And.intro r8 r9)
                          clear hrec hro hra hbl2 hrd hc hst hrf hrl hstep q7 r7 q8 r8 r9 hg7 hKK hKQ
                          go_wp2_with (first | (go_at_call 87; refine HOK2.out.mono ?_; rintro e w' ⟨rfl, rfl⟩) | (go_at_call 130; refine HG7.out.mono ?_; rintro e w' ⟨rfl, rfl⟩))
                          have hcl3 : Calls Tryz.prog 133 #[v8] wr fun e w' => ∃ vc, e = .returned vc ∧ Hid (w'.ownsRow wr.heap.size 5 1 vc KK (u8s ((rest.drop 4).take KK)) ∧ Below wr.heap.size wr w') := by
                            have h1 := HR8.out.1
                            have h2 : KQ - 4 = KK := by have := HALL.out.2.2.2.2.2.1; omega
                            rw [h2] at h1
                            refine (cloneB_any h1 (u8s_oneCell _) (by omega)).mono ?_
                            rintro e w' ⟨vc, rfl, ho, hb⟩
                            exact ⟨vc, rfl, ho, hb⟩
                          have HCL3 := Lib.hid hcl3
                          clear hcl3
                          refine HCL3.out.mono ?_
                          rintro e w3 ⟨vc, rfl, H3⟩
                          obtain ⟨va3, vn3, rfl⟩ := (Rd.of_own H3.out.1).form
                          have hx3 : Ext (fun _ => False) wr (w3.alloc (.cells #[.slice va3 KK vn3] 114)) := (Ext.of_below H3.out.2 (Nat.le_refl _)).alloc _
                          have hnew := Rd.one w3 (.slice va3 KK vn3) 114
                          have hown3 := own_keep HALL.out.2.2.1 (hx3.keepT (fun _ _ _ _ => id))
                          have HN3 := Lib.hid (And.intro hnew hown3)
                          have HX3 := Lib.hid hx3
                          have hbs : w1.heap.size ≤ (w3.alloc (.cells #[.slice va3 KK vn3] 114)).heap.size := Nat.le_trans HALL.out.2.2.2.2.1.size hx3.size
                          have HBS := Lib.hid hbs
                          have hol : outs.length ≤ 16777216 := by have := HALL.out.2.2.2.2.2.2.1.2; omega
                          clear hnew hown3 hx3 hbs
                          go_wp2_with (at_builtin; refine wpList_app rfl (.tmp 120) (.tmp 126) 108 rfl w1.heap.size 114 1 24 (.slice none 0 0) Tryz.underlying108 (by kernel_rfl) rfl (by omega) u18 outs.length cs rfl HN3.out.2 _ 1 [.slice va3 KK vn3] 114 rfl HN3.out.1 (by intro u hu; rw [List.mem_singleton.1 hu]; rfl) (by simp only [maxLen]; omega) (by omega) HBS.out ?_; intro v7 w4 o1 o2 _)
                          have hk4 : KeepT 5 (w3.alloc (.cells #[.slice va3 KK vn3] 114)) w4 := grown_keepT HN3.out.2 o2 (by decide)
                          have hk5 : KeepT 5 wr w4 := (HX3.out.keepT (fun _ _ _ _ => id)).trans hk4
                          have hk6 : KeepT 5 w3 w4 := (((Ext.refl (fun _ => False) w3).alloc _).keepT (fun _ _ _ _ => id)).trans hk4
                          have hcr : KQ ≤ rest.length := by omega
                          obtain ⟨hrec, hstep, hro, hra, hbl2, hKQ, hrf, hrl⟩ := HALL.out
                          have hb4 : Below w1.heap.size w1 w4 := (hbl2.trans ((HX3.out.below (fun _ _ h => h) (Nat.le_refl _)).mono hbl2.size)).grown o2 HBS.out (fun k hk => (HN3.out.2.lt k hk).1)
                          have hfin : Hid (∃ (f : Nat) (rest2 : List UInt8) (outs : List (List UInt8)) (cs : List Value), recsF N (((x.take z ++ ys).drop 32).take N) = (recsF f rest2).map (outs ++ ·) ∧ rest2.length = rest.length - KQ ∧ (rest2.length ≤ f ∧ rest2.length + 4 * outs.length ≤ N) ∧ Rd w4 5 1 (.slice a9 (rest.length - KQ) c9) rest2.length (u8s rest2) ∧ w4.ownsRow w1.heap.size 114 1 v7 outs.length cs ∧ RecsAt w4 cs outs ∧ Below w1.heap.size w1 w4) := by
                            refine ⟨f - 1, rest.drop KQ, outs ++ [(rest.drop 4).take KK], cs ++ [.slice va3 KK vn3], ?_, by simp, ⟨by simp; omega, by simp; omega⟩, ?_, ?_, ?_, hb4⟩
                            · rw [hrec, hstep, if_neg (by omega), if_neg (by omega), hKQ, Option.map_map]
                              congr 1
                              funext q
                              simp
                            · have h1 := HR8.out.2.kept hk5
                              rw [List.length_drop]
                              exact h1
                            · have h1 : (outs ++ [(rest.drop 4).take KK]).length = outs.length + 1 := by simp
                              rw [h1]
                              exact o1
                            · refine (hra.kept hk5).snoc ?_
                              have h1 : ((rest.drop 4).take KK).length = KK := by rw [List.length_take, List.length_drop]; omega
                              rw [h1]
                              exact (Rd.of_own H3.out.1).kept hk6
                          clear hrec hstep hro hra hbl2 hKQ hrf hrl hb4 hk4 hk5 hk6
                          refine ⟨?_, by show rest.length - KQ < rest.length; omega⟩
                          (repeat apply Exists.intro)
                          refine ⟨⟨rest.length - KQ, hfin⟩, ?_⟩
                          rw [hI2]
                          rfl
                        · have hK' : decide ((KK : Int) ≤ (rest.length : Int) - 4) = false := by simp; omega
                          have HRES := Lib.hid (And.intro hrec (And.intro hstep hbl2))
                          have HNO2 := Lib.hid (must_no 0 wr)
                          clear hrec hro hra hbl2 hrd hc hst hrf hrl hstep q7 r7 hg7 hKK
                          go_wp2_with (first | (go_at_call 87; refine HOK2.out.mono ?_; rintro e w' ⟨rfl, rfl⟩) | (go_at_call 130; refine HG7.out.mono ?_; rintro e w' ⟨rfl, rfl⟩))
                          refine HNO2.out.mono ?_
                          rintro e w' ⟨rfl, rfl⟩
                          refine ⟨rfl, ?_⟩
                          obtain ⟨hrec, hstep, hbl2⟩ := HRES.out
                          rw [hstep, if_neg (by omega), if_pos (by omega)] at hrec
                          rw [HOPEN.out, if_neg (fun q => q ⟨hsig, HGE.out⟩), if_neg (fun q => q ⟨by rw [HO.out.2.1, HO.out.1], by rw [HO.out.2.2.1, HNX.out]⟩), if_neg (by rw [HO.out.2.2.2, ← hzz, HM.out]; omega), HO.out.2.2.2, HK.out.2.2, HK.out.1, Nat.add_sub_cancel, HRR.out.2.1]
                          simp only [hrec, Option.map_none]
                          exact ⟨rfl, H1.out.2.1.trans (hbl2.mono H1.out.2.1.size)⟩
                      · have h4' : ¬ (4 : Int) ≤ (rest.length : Int) := by omega
                        have HRES := Lib.hid (And.intro hrec (And.intro hstep hbl2))
                        have HNO2 := Lib.hid (must_no 0 wr)
                        clear hrec hro hra hbl2 hrd hc hst hrf hrl hstep
                        go_wp2_with fail
                        refine HNO2.out.mono ?_
                        rintro e w' ⟨rfl, rfl⟩
                        refine ⟨rfl, ?_⟩
                        obtain ⟨hrec, hstep, hbl2⟩ := HRES.out
                        rw [hstep, if_pos (by omega)] at hrec
                        rw [HOPEN.out, if_neg (fun q => q ⟨hsig, HGE.out⟩), if_neg (fun q => q ⟨by rw [HO.out.2.1, HO.out.1], by rw [HO.out.2.2.1, HNX.out]⟩), if_neg (by rw [HO.out.2.2.2, ← hzz, HM.out]; omega), HO.out.2.2.2, HK.out.2.2, HK.out.1, Nat.add_sub_cancel, HRR.out.2.1]
                        simp only [hrec, Option.map_none]
                        exact ⟨rfl, H1.out.2.1.trans (hbl2.mono H1.out.2.1.size)⟩
            · have hNM' : decide ((N : Int) ≤ (M : Int) - 32) = false := by simp; omega
              go_wp2_with fail
              refine HNO.out.mono ?_
              rintro e w' ⟨rfl, rfl⟩
              refine ⟨rfl, ?_⟩
              rw [HOPEN.out, if_neg (fun q => q ⟨hsig, HGE.out⟩), if_neg (fun q => q ⟨by rw [HO.out.2.1, HO.out.1], by rw [HO.out.2.2.1, HNX.out]⟩), if_pos (by rw [HO.out.2.2.2, ← hzz, HM.out]; omega)]
              exact ⟨rfl, HBL.out⟩
          · have h6' : ((G6 : Int) == (NX : Int)) = false := by simp; omega
            go_wp2_with fail
            refine HG6'.out.mono ?_
            rintro e w' ⟨rfl, rfl⟩
            go_wp2_with fail
            refine HNO.out.mono ?_
            rintro e w' ⟨rfl, rfl⟩
            refine ⟨rfl, ?_⟩
            rw [HOPEN.out, if_neg (fun q => q ⟨hsig, HGE.out⟩), if_pos (fun q => h6 (by rw [← HO.out.2.2.1, ← HNX.out]; exact q.2))]
            exact ⟨rfl, HBL.out⟩
        · have h5' : ((G5 : Int) == (T : Int)) = false := by simp; omega
          go_wp2_with fail
          refine HNO.out.mono ?_
          rintro e w' ⟨rfl, rfl⟩
          refine ⟨rfl, ?_⟩
          rw [HOPEN.out, if_neg (fun q => q ⟨hsig, HGE.out⟩), if_pos (fun q => h5 (by rw [← HO.out.2.1, ← HO.out.1]; exact q.1))]
          exact ⟨rfl, HBL.out⟩
      · have h3' : ((G3 : Int) == (next : Int)) = false := by simp; omega
        go_wp2_with fail
        refine HG3.out.mono ?_
        rintro e w' ⟨rfl, rfl⟩
        go_wp2_with fail
        refine HNO.out.mono ?_
        rintro e w' ⟨rfl, rfl⟩
        refine ⟨rfl, ?_⟩
        rw [HOPEN.out, if_pos (fun q => h3 (HGE.out ▸ q.2))]
        exact ⟨rfl, HBL.out⟩
    · go_wp2_with (go_at_call 87; refine HNO.out.mono ?_; rintro e w' ⟨rfl, rfl⟩)
      refine ⟨rfl, ?_⟩
      rw [HOPEN.out, if_pos (fun q => hsig q.1)]
      exact ⟨rfl, HBL.out⟩
end
end Go.Proofs.YtekolejeliefdaaGreat
