/- The log: commits and resets. -/
import Derived.Test.YtekolejeliefdaaGreatWalE
set_option linter.unusedVariables false
set_option linter.unusedSimpArgs false
namespace Go.Proofs.YtekolejeliefdaaGreat
open Go.RowKit
variable {X : Nat → Prop}

theorem secs_fit {z n x : Nat} (hz : 0 < z) (h : n ≤ x * z) : secsF z n ≤ x := by
  have h1 := Nat.div_add_mod n z
  have h2 : n / z ≤ x := by
    rw [Nat.div_le_iff_le_mul_add_pred hz]
    rw [Nat.mul_comm]
    omega
  unfold secsF
  rcases Nat.eq_zero_or_pos (n % z) with h3 | h3
  · omega
  · rcases Nat.lt_or_ge (n / z) x with h4 | h4
    · omega
    · exfalso
      have h5 : n / z = x := by omega
      rw [h5, Nat.mul_comm] at h1
      omega
/-- What a frame's write does: the disk, the place behind it, what is told, is its first sector in doubt? -/
def writeF (s : DS) (turn next a : Nat) (rs : List (List UInt8)) : DS × Nat × Int × Bool :=
  if rs.any isLong = true then (s, 0, 42, false)
  else if (s.sure.length / 2 - a) * (s.size - 16) < min (32 + (bodyF rs).length) (s.sure.length * s.size + 1) then (s, 0, 40, false)
  else ((layF (turn % 2 * (s.sure.length / 2) + a) turn next (frameF turn next rs) s).1, a + secsF (s.size - 16) (32 + (bodyF rs).length), (layF (turn % 2 * (s.sure.length / 2) + a) turn next (frameF turn next rs) s).2.1, (layF (turn % 2 * (s.sure.length / 2) + a) turn next (frameF turn next rs) s).2.2)
theorem LogAt.keeps {w w1 : World} {lp um p g m : Nat} {l : LS} {s : DS} (h : LogAt X w lp um l p g m s) {S : Nat → Prop} (hx : Ext S w w1) (hS : ∀ k, S k → k = p ∨ k = g ∨ k = m ∨ k = um ∨ k = lp) : KeepT 5 w w1 ∧ KeepT 114 w w1 → True := fun _ => trivial

set_option maxRecDepth 100000 in
set_option maxHeartbeats 2000000 in
theorem writes_any {w : World} {lp um p g m : Nat} {l : LS} {s : DS} (h : LogAt X w lp um l p g m s) (hu : l.undone = []) {v : Value} {n : Nat} {cs : List Value} {rs : List (List UInt8)} (hv : Rd w 114 1 v n cs) (hr : RecsAt w cs rs)
    (turn next a : Nat) (ht : turn < 18446744073709551616) (hn : next < 18446744073709551616) (ha : a ≤ s.sure.length / 2) :
    Calls Tryz.prog 97 #[.pointer (some ⟨lp, 0, none⟩), .int .u64 turn, .int .u64 next, .int .i64 a, v] w fun e w' =>
      e = .returned (.tuple #[.int .i64 (writeF s turn next a rs).2.1, .int .i64 (writeF s turn next a rs).2.2.1]) ∧
      LogAt X w' lp um { l with undone := undoF (writeF s turn next a rs).2.2.2 (turn % 2 * (s.sure.length / 2) + a) turn } p g m (writeF s turn next a rs).1 ∧ Ext (fun k => k = p ∨ k = g ∨ k = m ∨ k = um) w w' := by
  have HCO := Lib.hid (contains_long hv hr)
  have hul : { l with undone := [] } = l := by rw [← hu]
  have H0 := Lib.hid (And.intro h (And.intro hv hr))
  by_cases hlo : rs.any isLong = true
  · have hres : writeF s turn next a rs = (s, 0, 42, false) := by simp only [writeF, if_pos hlo]
    rw [hlo] at HCO
    rw [hres]
    clear h hv hr
    go_enter Tryz.func97, Tryz.ntmps97
    go_wp2_with (go_at_call 140; refine HCO.out.mono ?_; rintro e w' ⟨rfl, rfl⟩)
    go_ret2
    exact ⟨rfl, by show LogAt X w lp um { l with undone := [] } p g m s; rw [hul]; exact H0.out.1, Ext.refl _ _⟩
  · have hlo' : rs.any isLong = false := by simpa using hlo
    have hlen : ∀ r ∈ rs, r.length ≤ 1048576 := by
      intro r hr'
      have := List.any_eq_false.1 hlo' r hr'
      simp [isLong] at this
      omega
    rw [hlo'] at HCO
    have HB := Lib.hid (bytes_any h hv hr hlen)
    have HM := Lib.hid (most_any h.drew a ha)
    obtain ⟨B, hB⟩ : ∃ B, min (32 + (bodyF rs).length) (s.sure.length * s.size + 1) = B := ⟨_, rfl⟩
    obtain ⟨M, hM⟩ : ∃ M, (s.sure.length / 2 - a) * (s.size - 16) = M := ⟨_, rfl⟩
    rw [hB] at HB
    rw [hM] at HM
    by_cases hf : M < B
    · have hres : writeF s turn next a rs = (s, 0, 40, false) := by simp only [writeF, if_neg hlo, hB, hM, if_pos hf]
      rw [hres]
      clear h hv hr hB hM
      go_enter Tryz.func97, Tryz.ntmps97
      go_wp2_with (first | (go_at_call 140; refine HCO.out.mono ?_; rintro e w' ⟨rfl, rfl⟩) | (go_at_call 142; refine HB.out.mono ?_; rintro e w' ⟨rfl, rfl⟩) | (go_at_call 131; refine HM.out.mono ?_; rintro e w' ⟨rfl, rfl⟩))
      go_ret2
      exact ⟨rfl, by show LogAt X w.drew lp um { l with undone := [] } p g m s; rw [hul]; exact H0.out.1.drew, (Ext.refl _ w).drew⟩
    · have hN := h.disk.ok.n2
      have hZ := h.disk.ok.z2
      have hZ1 := h.disk.ok.z1
      have hMA : M ≤ s.sure.length * s.size := by rw [← hM]; exact Nat.mul_le_mul (by omega) (by omega)
      have hMB : M ≤ 2048 * 4096 := by rw [← hM]; exact Nat.mul_le_mul (by omega) (by omega)
      have hBn : B = 32 + (bodyF rs).length := by omega
      have hres : writeF s turn next a rs = ((layF (turn % 2 * (s.sure.length / 2) + a) turn next (frameF turn next rs) s).1, a + secsF (s.size - 16) B, (layF (turn % 2 * (s.sure.length / 2) + a) turn next (frameF turn next rs) s).2.1, (layF (turn % 2 * (s.sure.length / 2) + a) turn next (frameF turn next rs) s).2.2) := by
        simp only [writeF, if_neg hlo, hB, hM, if_neg hf]
        rw [← hBn]
      rw [hres]
      have hfit : a + secsF (s.size - 16) B ≤ s.sure.length / 2 := by
        have := secs_fit (z := s.size - 16) (n := B) (x := s.sure.length / 2 - a) (by omega) (by rw [hM]; omega)
        omega
      have HS := Lib.hid (sectors_any' h.drew B (by omega))
      have hxd : Ext (fun _ => False) w w.drew.drew := ((Ext.refl _ w).drew).drew
      have hfr := frame_any (w := w.drew.drew) (v := v) (n := n) (cs := cs) (rs := rs) turn next (hv.kept (fun _ _ _ h => h)) ⟨hr.1, fun i v r h1 h2 => (hr.2 i v r h1 h2).kept (fun _ _ _ h => h)⟩ (by omega) ht hn
      have HFR : Hid (Calls Tryz.prog 144 #[.int .u64 turn, .int .u64 next, v] w.drew.drew fun e w' => ∃ u, e = .returned u ∧ Hid (Calls Tryz.prog 143 #[.pointer (some ⟨lp, 0, none⟩), .int .u64 turn, .int .u64 next, .int .i64 a, u] w' fun e w2 =>
          e = .returned (.int .i64 (layF (turn % 2 * (s.sure.length / 2) + a) turn next (frameF turn next rs) s).2.1) ∧
          Hid (LogAt X w2 lp um { l with undone := undoF (layF (turn % 2 * (s.sure.length / 2) + a) turn next (frameF turn next rs) s).2.2 (turn % 2 * (s.sure.length / 2) + a) turn } p g m (layF (turn % 2 * (s.sure.length / 2) + a) turn next (frameF turn next rs) s).1 ∧ Ext (fun k => k = p ∨ k = g ∨ k = m ∨ k = um) w w2))) := by
        refine hfr.mono ?_
        rintro e w' ⟨u, rfl, ho, hb⟩
        refine ⟨u, rfl, ?_⟩
        have hx : Ext (fun _ => False) w w' := hxd.trans (Ext.of_below hb (Nat.le_refl _))
        have hl' := h.past hx ⟨id, id, id, id, id⟩ (hx.keepT (fun _ _ _ _ => id))
        refine (lay_any hl' hu (Rd.of_own ho) turn next a ht hn (by omega) (by rw [← hBn]; exact hfit)).mono ?_
        rintro e w2 ⟨rfl, hl2, hx2⟩
        exact ⟨rfl, hl2, (hx.mono (fun _ _ h => h.elim)).trans hx2⟩
      obtain ⟨R, hR⟩ : ∃ R, layF (turn % 2 * (s.sure.length / 2) + a) turn next (frameF turn next rs) s = R := ⟨_, rfl⟩
      obtain ⟨Q, hQ⟩ : ∃ Q, secsF (s.size - 16) B = Q := ⟨_, rfl⟩
      rw [hR] at HFR ⊢
      rw [hQ] at HS hfit ⊢
      have hfit2 : a + Q ≤ 2048 := by omega
      have hMB2 : ¬ M < B := hf
      clear h hv hr hB hM hres hfr hxd hR hQ hBn hMA hMB hlen hul
      go_enter Tryz.func97, Tryz.ntmps97
      go_wp2_with (first | (go_at_call 140; refine HCO.out.mono ?_; rintro e w' ⟨rfl, rfl⟩) | (go_at_call 142; refine HB.out.mono ?_; rintro e w' ⟨rfl, rfl⟩) | (go_at_call 131; refine HM.out.mono ?_; rintro e w' ⟨rfl, rfl⟩) | (go_at_call 132; refine HS.out.mono ?_; rintro e w' ⟨rfl, rfl⟩) |
        (go_at_call 144; refine HFR.out.mono ?_; rintro e w3 ⟨u, rfl, HL⟩) | (go_at_call 143; refine HL.out.mono ?_; rintro e w4 ⟨rfl, H4⟩))
      go_ret2
      refine ⟨?_, H4.out.1, H4.out.2⟩
      show Ending.returned (.tuple #[.int .i64 ((a : Int) + (Q : Int)), .int .i64 R.2.1]) = .returned (.tuple #[.int .i64 ((a + Q : Nat) : Int), .int .i64 R.2.1])
      rw [show ((a + Q : Nat) : Int) = (a : Int) + (Q : Int) from Int.natCast_add a Q]

/-- What a commit does to the disk and the log, and what it tells. -/
def commitF (s : DS) (l : LS) (rs : List (List UInt8)) : DS × LS × Int :=
  let r := writeF s l.turn l.next l.at_ rs
  if r.2.2.1 = 0 then (r.1, { l with next := (l.next + 1) % 18446744073709551616, at_ := r.2.1, count := l.count + rs.length, undone := undoF r.2.2.2 (l.turn % 2 * (s.sure.length / 2) + l.at_) l.turn }, 0)
  else (r.1, { l with undone := undoF r.2.2.2 (l.turn % 2 * (s.sure.length / 2) + l.at_) l.turn }, r.2.2.1)

theorem LogAt.set {w : World} {lp um p g m : Nat} {l l' : LS} {s : DS} (h : LogAt X w lp um l p g m s) (i : Nat) (u : Value) (hu : l'.undone = l.undone)
    (hcs : (#[.pointer (some ⟨p, 0, none⟩), .int .u64 l.turn, .int .u64 l.next, .int .i64 l.at_, .int .i64 l.count, .map (some um)] : Array Value).setIfInBounds i u = #[.pointer (some ⟨p, 0, none⟩), .int .u64 l'.turn, .int .u64 l'.next, .int .i64 l'.at_, .int .i64 l'.count, .map (some um)]) :
    LogAt X (w.setCell ⟨lp, i, none⟩ u) lp um l' p g m s := by
  obtain ⟨a1, a2, a3, a4, a5, a6, a7⟩ := h.apart
  have hx : Ext (· = lp) w (w.setCell ⟨lp, i, none⟩ u) := (Ext.refl (· = lp) w).setCell (fun _ => rfl) _
  refine ⟨by rw [heap_setCell_at h.blk, hcs], ?_, h.disk.kept_ext hx (Ne.symm a2) (Ne.symm a3) (Ne.symm a4) ?_, h.ne, h.off⟩
  · rw [hu]
    exact h.und.kept (heap_setCell_ne (Ne.symm a1) _)
  · refine hx.keepT ?_
    rintro b cur fr hb rfl
    rw [h.blk] at hb
    simp at hb
theorem Ext.setLog {w w1 : World} {S : Nat → Prop} (h : Ext S w w1) (lp i : Nat) (u : Value) (hS : S lp) : Ext S w (w1.setCell ⟨lp, i, none⟩ u) := h.setCell (fun _ => hS) _

set_option maxRecDepth 100000 in
set_option maxHeartbeats 2000000 in
theorem commit_any {w : World} {lp um p g m : Nat} {l : LS} {s : DS} (h : LogAt X w lp um l p g m s) (hu : l.undone = []) {v : Value} {n : Nat} {cs : List Value} {rs : List (List UInt8)} (hv : Rd w 114 1 v n cs) (hr : RecsAt w cs rs)
    (ht : l.turn < 18446744073709551616) (hn : l.next < 18446744073709551616) (ha : l.at_ ≤ s.sure.length / 2) (hc : l.count + n ≤ 4611686018427387904) :
    Calls Tryz.prog 56 #[.pointer (some ⟨lp, 0, none⟩), v] w fun e w' =>
      e = .returned (.int .i64 (commitF s l rs).2.2) ∧ LogAt X w' lp um (commitF s l rs).2.1 p g m (commitF s l rs).1 ∧ Ext (fun k => k = p ∨ k = g ∨ k = m ∨ k = um ∨ k = lp) w w' := by
  have hrn : rs.length = n := by have h1 := hr.1; have h2 := hv.1; omega
  obtain ⟨va, vc, rfl⟩ := hv.form
  obtain ⟨R, hR⟩ : ∃ R, writeF s l.turn l.next l.at_ rs = R := ⟨_, rfl⟩
  have hwr := writes_any h.drew hu (hv.kept (w1 := w.drew) (fun _ _ _ h => h)) (hr.kept (w1 := w.drew) (fun _ _ _ h => h)) l.turn l.next l.at_ ht hn ha
  rw [hR] at hwr
  obtain ⟨l2, hl2⟩ : ∃ l2 : LS, { l with undone := undoF R.2.2.2 (l.turn % 2 * (s.sure.length / 2) + l.at_) l.turn } = l2 := ⟨_, rfl⟩
  have hwr' : Calls Tryz.prog 97 #[.pointer (some ⟨lp, 0, none⟩), .int .u64 l.turn, .int .u64 l.next, .int .i64 l.at_, .slice va n vc] w.drew fun e w' => e = .returned (.tuple #[.int .i64 R.2.1, .int .i64 R.2.2.1]) ∧
      (w'.cell? ⟨lp, 1, none⟩ = some (.int .u64 l.turn) ∧ w'.cell? ⟨lp, 2, none⟩ = some (.int .u64 l.next) ∧ w'.cell? ⟨lp, 3, none⟩ = some (.int .i64 l.at_)) ∧ w'.cell? ⟨lp, 4, none⟩ = some (.int .i64 l.count) ∧ w'.frozen? ⟨lp, 2, none⟩ = false ∧ w'.frozen? ⟨lp, 3, none⟩ = false ∧ w'.frozen? ⟨lp, 4, none⟩ = false ∧
      Hid (LogAt X w' lp um l2 p g m R.1 ∧ Ext (fun k => k = p ∨ k = g ∨ k = m ∨ k = um ∨ k = lp) w w') := by
    refine hwr.mono ?_
    rintro e w' ⟨rfl, hl, hx⟩
    refine ⟨rfl, ⟨by rw [cell_of_block hl.blk]; rfl, by rw [cell_of_block hl.blk]; rfl, by rw [cell_of_block hl.blk]; rfl⟩, by rw [cell_of_block hl.blk]; rfl, free_of_block hl.blk _, free_of_block hl.blk _, free_of_block hl.blk _, hl2 ▸ hl, ?_⟩
    exact ((Ext.refl _ w).drew).trans (hx.mono (fun q _ hq => by rcases hq with h | h | h | h <;> simp [h]))
  have hS0 : w.drew.cell? ⟨lp, 1, none⟩ = some (.int .u64 l.turn) ∧ w.drew.cell? ⟨lp, 2, none⟩ = some (.int .u64 l.next) ∧ w.drew.cell? ⟨lp, 3, none⟩ = some (.int .i64 l.at_) :=
    ⟨by rw [cell_of_block h.drew.blk]; rfl, by rw [cell_of_block h.drew.blk]; rfl, by rw [cell_of_block h.drew.blk]; rfl⟩
  have HW := Lib.hid hwr'
  have HL2 := Lib.hid hl2
  have HR := Lib.hid hR
  have hc2 : l.count + n ≤ 4611686018427387904 := hc
  obtain ⟨C, hC⟩ : ∃ C, l.count + n = C := ⟨_, rfl⟩
  have hcc : (l.count : Int) + (n : Int) = (C : Int) := by omega
  have hnw : IntKind.u64.wrap ((l.next : Int) + 1) = (((l.next + 1) % 18446744073709551616 : Nat) : Int) := by rw [IntKind.wrap_u64]; omega
  have HC := Lib.hid hC
  clear hwr hwr' hl2 hR h hv hr hC hc
  by_cases hE : R.2.2.1 = 0
  · have hres : commitF s l rs = (R.1, { l2 with next := (l.next + 1) % 18446744073709551616, at_ := R.2.1, count := C }, 0) := by
      have h1 := HR.out
      have h2 := HL2.out
      have h3 := HC.out
      simp only [commitF, h1, if_pos hE, ← h2, hrn, h3]
    rw [hres]
    rw [hE] at HW
    clear hres
    go_enter Tryz.func56, Tryz.ntmps56
    go_wp2_with fail
    refine region_X (fun W => W.cell? ⟨lp, 1, none⟩ = some (.int .u64 l.turn) ∧ W.cell? ⟨lp, 2, none⟩ = some (.int .u64 l.next) ∧ W.cell? ⟨lp, 3, none⟩ = some (.int .i64 l.at_)) (by kernel_rfl) ?_
    simp only [List.length_cons, List.length_nil, Nat.reduceAdd]
    refine AnyX.take 0 rfl (by kernel_rfl) (fun _ _ _ h => h) hS0 rfl (by rintro W ⟨s1, s2, s3⟩; go_simp; rfl) ?_; simp only [Act.put, List.setIfInBounds_toArray, List.set_cons_succ, List.set_cons_zero]
    refine AnyX.take 1 rfl (by kernel_rfl) (fun _ _ _ h => h) hS0 rfl (by rintro W ⟨s1, s2, s3⟩; go_simp; rfl) ?_; simp only [Act.put, List.setIfInBounds_toArray, List.set_cons_succ, List.set_cons_zero]
    refine AnyX.take 2 rfl (by kernel_rfl) (fun _ _ _ h => h) hS0 rfl (by rintro W ⟨s1, s2, s3⟩; go_simp; rfl) ?_; simp only [Act.put, List.setIfInBounds_toArray, List.set_cons_succ, List.set_cons_zero]
    refine AnyX.take 3 rfl (by kernel_rfl) (fun _ _ _ h => h) hS0 rfl (by rintro W ⟨s1, s2, s3⟩; go_simp; rfl) ?_; simp only [Act.put, List.setIfInBounds_toArray, List.set_cons_succ, List.set_cons_zero]
    refine AnyX.take 4 rfl (by kernel_rfl) (fun _ _ _ h => h) hS0 rfl (by rintro W ⟨s1, s2, s3⟩; go_simp; rfl) ?_; simp only [Act.put, List.setIfInBounds_toArray, List.set_cons_succ, List.set_cons_zero]
    refine AnyX.take 5 rfl (by kernel_rfl) (fun _ _ _ h => h) hS0 rfl (by rintro W ⟨s1, s2, s3⟩; go_simp; rfl) ?_; simp only [Act.put, List.setIfInBounds_toArray, List.set_cons_succ, List.set_cons_zero]
    refine AnyX.take 6 rfl (by kernel_rfl) (fun _ _ _ h => h) hS0 rfl (by rintro W ⟨s1, s2, s3⟩; go_simp; rfl) ?_; simp only [Act.put, List.setIfInBounds_toArray, List.set_cons_succ, List.set_cons_zero]
    refine AnyX.take 7 rfl (by kernel_rfl) (fun _ _ _ h => h) hS0 rfl (by rintro W ⟨s1, s2, s3⟩; go_simp; rfl) ?_; simp only [Act.put, List.setIfInBounds_toArray, List.set_cons_succ, List.set_cons_zero]
    refine AnyX.take 8 rfl (by kernel_rfl) (fun _ _ _ h => h) hS0 rfl (by rintro W ⟨s1, s2, s3⟩; go_simp; rfl) ?_; simp only [Act.put, List.setIfInBounds_toArray, List.set_cons_succ, List.set_cons_zero]
    refine AnyX.take 9 rfl (by kernel_rfl) (fun _ _ _ h => h) hS0 rfl (by rintro W ⟨s1, s2, s3⟩; go_simp; rfl) ?_; simp only [Act.put, List.setIfInBounds_toArray, List.set_cons_succ, List.set_cons_zero]
    refine AnyX.take 10 rfl (by kernel_rfl) (fun _ _ _ h => h) hS0 rfl (by rintro W ⟨s1, s2, s3⟩; go_simp; rfl) ?_; simp only [Act.put, List.setIfInBounds_toArray, List.set_cons_succ, List.set_cons_zero]
    refine AnyX.take 11 rfl (by kernel_rfl) (fun _ _ _ h => h) hS0 rfl (by rintro W ⟨s1, s2, s3⟩; go_simp; rfl) ?_; simp only [Act.put, List.setIfInBounds_toArray, List.set_cons_succ, List.set_cons_zero]
    refine AnyX.take 12 rfl (by kernel_rfl) (fun _ _ _ h => h) hS0 rfl (by rintro W ⟨s1, s2, s3⟩; go_simp; rfl) ?_; simp only [Act.put, List.setIfInBounds_toArray, List.set_cons_succ, List.set_cons_zero]
    refine AnyX.take 13 rfl (by kernel_rfl) (fun _ _ _ h => h) hS0 rfl (by rintro W ⟨s1, s2, s3⟩; go_simp; rfl) ?_; simp only [Act.put, List.setIfInBounds_toArray, List.set_cons_succ, List.set_cons_zero]
    refine AnyX.act 14 rfl (by kernel_rfl) rfl (fun K hK => ?_)
    go_wp2_with (go_at_call 97; refine HW.out.mono ?_; rintro e w2 ⟨rfl, hS1, c4, f2, f3, f4, H2⟩)
    refine hK _ _ hS1 ?_
    clear hK K
    refine AnyX.take 15 rfl (by kernel_rfl) (fun _ _ _ h => h) hS1 rfl (by rintro W ⟨s1, s2, s3⟩; go_simp; rfl) ?_; simp only [Act.put, List.setIfInBounds_toArray, List.set_cons_succ, List.set_cons_zero]
    refine AnyX.take 16 rfl (by kernel_rfl) (fun _ _ _ h => h) hS1 rfl (by rintro W ⟨s1, s2, s3⟩; go_simp; rfl) ?_; simp only [Act.put, List.setIfInBounds_toArray, List.set_cons_succ, List.set_cons_zero]
    refine AnyX.take 17 rfl (by kernel_rfl) (fun _ _ _ h => h) hS1 rfl (by rintro W ⟨s1, s2, s3⟩; go_simp; rfl) ?_; simp only [Act.put, List.setIfInBounds_toArray, List.set_cons_succ, List.set_cons_zero]
    refine AnyX.take 18 rfl (by kernel_rfl) (fun _ _ _ h => h) hS1 rfl (by rintro W ⟨s1, s2, s3⟩; go_simp; rfl) ?_; simp only [Act.put, List.setIfInBounds_toArray, List.set_cons_succ, List.set_cons_zero]
    refine AnyX.end_ 19 rfl (by kernel_rfl) (by kernel_rfl) (by kernel_rfl) rfl ?_
    go_wp2_with fail
    go_ret
    refine ⟨rfl, ?_, (((H2.out.2.setLog lp 3 _ (by simp)).setLog lp 2 _ (by simp)).setLog lp 4 _ (by simp))⟩
    have q1 := H2.out.1.set (l' := { l2 with at_ := R.2.1 }) 3 (.int .i64 R.2.1) rfl rfl
    have q2 := q1.set (l' := { l2 with at_ := R.2.1, next := (l.next + 1) % 18446744073709551616 }) 2 (.int .u64 (((l.next + 1) % 18446744073709551616 : Nat) : Int)) rfl rfl
    have q3 := q2.set (l' := { l2 with at_ := R.2.1, next := (l.next + 1) % 18446744073709551616, count := C }) 4 (.int .i64 C) rfl rfl
    exact q3
  · have hres : commitF s l rs = (R.1, l2, R.2.2.1) := by
      have h1 := HR.out
      have h2 := HL2.out
      simp only [commitF, h1, if_neg hE, h2]
    rw [hres]
    obtain ⟨E, hEE⟩ : ∃ E, R.2.2.1 = E := ⟨_, rfl⟩
    rw [hEE] at HW hE ⊢
    have hE1 : (E != 0) = true := by simpa using hE
    clear hres hEE hE
    go_enter Tryz.func56, Tryz.ntmps56
    go_wp2_with fail
    refine region_X (fun W => W.cell? ⟨lp, 1, none⟩ = some (.int .u64 l.turn) ∧ W.cell? ⟨lp, 2, none⟩ = some (.int .u64 l.next) ∧ W.cell? ⟨lp, 3, none⟩ = some (.int .i64 l.at_)) (by kernel_rfl) ?_
    simp only [List.length_cons, List.length_nil, Nat.reduceAdd]
    refine AnyX.take 0 rfl (by kernel_rfl) (fun _ _ _ h => h) hS0 rfl (by rintro W ⟨s1, s2, s3⟩; go_simp; rfl) ?_; simp only [Act.put, List.setIfInBounds_toArray, List.set_cons_succ, List.set_cons_zero]
    refine AnyX.take 1 rfl (by kernel_rfl) (fun _ _ _ h => h) hS0 rfl (by rintro W ⟨s1, s2, s3⟩; go_simp; rfl) ?_; simp only [Act.put, List.setIfInBounds_toArray, List.set_cons_succ, List.set_cons_zero]
    refine AnyX.take 2 rfl (by kernel_rfl) (fun _ _ _ h => h) hS0 rfl (by rintro W ⟨s1, s2, s3⟩; go_simp; rfl) ?_; simp only [Act.put, List.setIfInBounds_toArray, List.set_cons_succ, List.set_cons_zero]
    refine AnyX.take 3 rfl (by kernel_rfl) (fun _ _ _ h => h) hS0 rfl (by rintro W ⟨s1, s2, s3⟩; go_simp; rfl) ?_; simp only [Act.put, List.setIfInBounds_toArray, List.set_cons_succ, List.set_cons_zero]
    refine AnyX.take 4 rfl (by kernel_rfl) (fun _ _ _ h => h) hS0 rfl (by rintro W ⟨s1, s2, s3⟩; go_simp; rfl) ?_; simp only [Act.put, List.setIfInBounds_toArray, List.set_cons_succ, List.set_cons_zero]
    refine AnyX.take 5 rfl (by kernel_rfl) (fun _ _ _ h => h) hS0 rfl (by rintro W ⟨s1, s2, s3⟩; go_simp; rfl) ?_; simp only [Act.put, List.setIfInBounds_toArray, List.set_cons_succ, List.set_cons_zero]
    refine AnyX.take 6 rfl (by kernel_rfl) (fun _ _ _ h => h) hS0 rfl (by rintro W ⟨s1, s2, s3⟩; go_simp; rfl) ?_; simp only [Act.put, List.setIfInBounds_toArray, List.set_cons_succ, List.set_cons_zero]
    refine AnyX.take 7 rfl (by kernel_rfl) (fun _ _ _ h => h) hS0 rfl (by rintro W ⟨s1, s2, s3⟩; go_simp; rfl) ?_; simp only [Act.put, List.setIfInBounds_toArray, List.set_cons_succ, List.set_cons_zero]
    refine AnyX.take 8 rfl (by kernel_rfl) (fun _ _ _ h => h) hS0 rfl (by rintro W ⟨s1, s2, s3⟩; go_simp; rfl) ?_; simp only [Act.put, List.setIfInBounds_toArray, List.set_cons_succ, List.set_cons_zero]
    refine AnyX.take 9 rfl (by kernel_rfl) (fun _ _ _ h => h) hS0 rfl (by rintro W ⟨s1, s2, s3⟩; go_simp; rfl) ?_; simp only [Act.put, List.setIfInBounds_toArray, List.set_cons_succ, List.set_cons_zero]
    refine AnyX.take 10 rfl (by kernel_rfl) (fun _ _ _ h => h) hS0 rfl (by rintro W ⟨s1, s2, s3⟩; go_simp; rfl) ?_; simp only [Act.put, List.setIfInBounds_toArray, List.set_cons_succ, List.set_cons_zero]
    refine AnyX.take 11 rfl (by kernel_rfl) (fun _ _ _ h => h) hS0 rfl (by rintro W ⟨s1, s2, s3⟩; go_simp; rfl) ?_; simp only [Act.put, List.setIfInBounds_toArray, List.set_cons_succ, List.set_cons_zero]
    refine AnyX.take 12 rfl (by kernel_rfl) (fun _ _ _ h => h) hS0 rfl (by rintro W ⟨s1, s2, s3⟩; go_simp; rfl) ?_; simp only [Act.put, List.setIfInBounds_toArray, List.set_cons_succ, List.set_cons_zero]
    refine AnyX.take 13 rfl (by kernel_rfl) (fun _ _ _ h => h) hS0 rfl (by rintro W ⟨s1, s2, s3⟩; go_simp; rfl) ?_; simp only [Act.put, List.setIfInBounds_toArray, List.set_cons_succ, List.set_cons_zero]
    refine AnyX.act 14 rfl (by kernel_rfl) rfl (fun K hK => ?_)
    go_wp2_with (go_at_call 97; refine HW.out.mono ?_; rintro e w2 ⟨rfl, hS1, c4, f2, f3, f4, H2⟩)
    refine hK _ _ hS1 ?_
    clear hK K
    refine AnyX.take 15 rfl (by kernel_rfl) (fun _ _ _ h => h) hS1 rfl (by rintro W ⟨s1, s2, s3⟩; go_simp; rfl) ?_; simp only [Act.put, List.setIfInBounds_toArray, List.set_cons_succ, List.set_cons_zero]
    refine AnyX.take 16 rfl (by kernel_rfl) (fun _ _ _ h => h) hS1 rfl (by rintro W ⟨s1, s2, s3⟩; go_simp; rfl) ?_; simp only [Act.put, List.setIfInBounds_toArray, List.set_cons_succ, List.set_cons_zero]
    refine AnyX.take 17 rfl (by kernel_rfl) (fun _ _ _ h => h) hS1 rfl (by rintro W ⟨s1, s2, s3⟩; go_simp; rfl) ?_; simp only [Act.put, List.setIfInBounds_toArray, List.set_cons_succ, List.set_cons_zero]
    refine AnyX.take 18 rfl (by kernel_rfl) (fun _ _ _ h => h) hS1 rfl (by rintro W ⟨s1, s2, s3⟩; go_simp; rfl) ?_; simp only [Act.put, List.setIfInBounds_toArray, List.set_cons_succ, List.set_cons_zero]
    refine AnyX.end_ 19 rfl (by kernel_rfl) (by kernel_rfl) (by kernel_rfl) rfl ?_
    go_wp2_with fail
    go_ret
    exact ⟨rfl, H2.out.1, H2.out.2⟩

/-- What a reset does to the disk and the log, and what it tells. -/
def resetF (s : DS) (l : LS) (rs : List (List UInt8)) : DS × LS × Int :=
  let t := (l.turn + 1) % 18446744073709551616
  let r := writeF s t 0 0 rs
  if r.2.2.1 = 0 then (r.1, { turn := t, next := 1, at_ := r.2.1, count := rs.length, undone := undoF r.2.2.2 (t % 2 * (s.sure.length / 2) + 0) t }, 0)
  else (r.1, { l with undone := undoF r.2.2.2 (t % 2 * (s.sure.length / 2) + 0) t }, r.2.2.1)

set_option maxRecDepth 100000 in
set_option maxHeartbeats 2000000 in
theorem reset_any {w : World} {lp um p g m : Nat} {l : LS} {s : DS} (h : LogAt X w lp um l p g m s) (hu : l.undone = []) {v : Value} {n : Nat} {cs : List Value} {rs : List (List UInt8)} (hv : Rd w 114 1 v n cs) (hr : RecsAt w cs rs) (ht : l.turn < 18446744073709551616) :
    Calls Tryz.prog 98 #[.pointer (some ⟨lp, 0, none⟩), v] w fun e w' =>
      e = .returned (.int .i64 (resetF s l rs).2.2) ∧ LogAt X w' lp um (resetF s l rs).2.1 p g m (resetF s l rs).1 ∧ Ext (fun k => k = p ∨ k = g ∨ k = m ∨ k = um ∨ k = lp) w w' := by
  have hrn : rs.length = n := by have h1 := hr.1; have h2 := hv.1; omega
  obtain ⟨va, vc, rfl⟩ := hv.form
  obtain ⟨T, hT⟩ : ∃ T, (l.turn + 1) % 18446744073709551616 = T := ⟨_, rfl⟩
  have hTw : IntKind.u64.wrap ((l.turn : Int) + 1) = (T : Int) := by rw [IntKind.wrap_u64]; omega
  obtain ⟨R, hR⟩ : ∃ R, writeF s T 0 0 rs = R := ⟨_, rfl⟩
  have hwr := writes_any h hu hv hr T 0 0 (by omega) (by omega) (by omega)
  rw [hR] at hwr
  obtain ⟨l2, hl2⟩ : ∃ l2 : LS, { l with undone := undoF R.2.2.2 (T % 2 * (s.sure.length / 2) + 0) T } = l2 := ⟨_, rfl⟩
  have hwr' : Calls Tryz.prog 97 #[.pointer (some ⟨lp, 0, none⟩), .int .u64 T, .int .u64 0, .int .i64 0, .slice va n vc] w fun e w' => e = .returned (.tuple #[.int .i64 R.2.1, .int .i64 R.2.2.1]) ∧
      w'.cell? ⟨lp, 1, none⟩ = some (.int .u64 l.turn) ∧ w'.cell? ⟨lp, 2, none⟩ = some (.int .u64 l.next) ∧ w'.cell? ⟨lp, 3, none⟩ = some (.int .i64 l.at_) ∧ w'.cell? ⟨lp, 4, none⟩ = some (.int .i64 l.count) ∧ w'.frozen? ⟨lp, 1, none⟩ = false ∧ w'.frozen? ⟨lp, 2, none⟩ = false ∧ w'.frozen? ⟨lp, 3, none⟩ = false ∧ w'.frozen? ⟨lp, 4, none⟩ = false ∧
      Hid (LogAt X w' lp um l2 p g m R.1 ∧ Ext (fun k => k = p ∨ k = g ∨ k = m ∨ k = um ∨ k = lp) w w') := by
    refine hwr.mono ?_
    rintro e w' ⟨rfl, hl, hx⟩
    refine ⟨rfl, by rw [cell_of_block hl.blk]; rfl, by rw [cell_of_block hl.blk]; rfl, by rw [cell_of_block hl.blk]; rfl, by rw [cell_of_block hl.blk]; rfl, free_of_block hl.blk _, free_of_block hl.blk _, free_of_block hl.blk _, free_of_block hl.blk _, hl2 ▸ hl, ?_⟩
    exact hx.mono (fun q _ hq => by rcases hq with h | h | h | h <;> simp [h])
  have c1 : w.cell? ⟨lp, 1, none⟩ = some (.int .u64 l.turn) := by rw [cell_of_block h.blk]; rfl
  have HW := Lib.hid hwr'
  have HL2 := Lib.hid hl2
  have HR := Lib.hid hR
  have HT := Lib.hid hT
  clear hwr hwr' hl2 hR h hv hr hT
  by_cases hE : R.2.2.1 = 0
  · have hres : resetF s l rs = (R.1, { turn := T, next := 1, at_ := R.2.1, count := n, undone := l2.undone }, 0) := by
      have h1 := HR.out
      have h2 := HL2.out
      have h3 := HT.out
      simp only [resetF, h3, h1, if_pos hE, ← h2, hrn]
    rw [hres]
    rw [hE] at HW
    clear hres
    go_enter Tryz.func98, Tryz.ntmps98
    go_wp2_with (go_at_call 97; refine HW.out.mono ?_; rintro e w2 ⟨rfl, d1, d2, d3, d4, f1, f2, f3, f4, H2⟩)
    go_ret
    refine ⟨rfl, ?_, ((((H2.out.2.setLog lp 1 _ (by simp)).setLog lp 2 _ (by simp)).setLog lp 3 _ (by simp)).setLog lp 4 _ (by simp))⟩
    have q1 := H2.out.1.set (l' := { l2 with turn := T }) 1 (.int .u64 T) rfl rfl
    have q2 := q1.set (l' := { l2 with turn := T, next := 1 }) 2 (.int .u64 1) rfl rfl
    have q3 := q2.set (l' := { l2 with turn := T, next := 1, at_ := R.2.1 }) 3 (.int .i64 R.2.1) rfl rfl
    have q4 := q3.set (l' := { l2 with turn := T, next := 1, at_ := R.2.1, count := n }) 4 (.int .i64 n) rfl rfl
    exact q4
  · have hres : resetF s l rs = (R.1, l2, R.2.2.1) := by
      have h1 := HR.out
      have h2 := HL2.out
      have h3 := HT.out
      simp only [resetF, h3, h1, if_neg hE, h2]
    rw [hres]
    obtain ⟨E, hEE⟩ : ∃ E, R.2.2.1 = E := ⟨_, rfl⟩
    rw [hEE] at HW hE ⊢
    have hE1 : (E != 0) = true := by simpa using hE
    clear hres hEE hE
    go_enter Tryz.func98, Tryz.ntmps98
    go_wp2_with (go_at_call 97; refine HW.out.mono ?_; rintro e w2 ⟨rfl, d1, d2, d3, d4, f1, f2, f3, f4, H2⟩)
    go_ret
    exact ⟨rfl, H2.out.1, H2.out.2⟩
end Go.Proofs.YtekolejeliefdaaGreat
