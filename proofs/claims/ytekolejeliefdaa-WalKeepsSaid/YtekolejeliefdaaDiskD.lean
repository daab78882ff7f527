/- The disk: Flush, Crash, Cut. -/
import Derived.Test.YtekolejeliefdaaDiskC
import Derived.Test.YtekolejeliefdaaConcatB
import Derived.WalkSmall
set_option linter.unusedVariables false
set_option linter.unusedSimpArgs false
namespace Go.Proofs.Ytekolejeliefdaa
open Go.RowKit
variable {X : Nat → Prop}

/-- One written sector, when the power has gone. -/
def crashF (keep : Nat) (torn : Int) (at_ : Nat) (k : Nat) (sure last : List UInt8) : List UInt8 :=
  if (k : Int) = torn then last.take at_ ++ sure.drop at_ else if keep / 2 ^ (k % 64) % 2 = 1 then last else sure

set_option maxHeartbeats 1000000 in
theorem crash1_any (keep : Nat) (hkeep : keep < 18446744073709551616) (torn : Int) (at_ z : Nat) (haz : at_ ≤ z) (hz : z ≤ 4096) (bt ba bk : Nat) (W : World) (k : Nat) (v1 v2 : Value) (x y : List UInt8)
    (ht : W.cell? ⟨bt, 0, none⟩ = some (.int .i64 torn)) (ha : W.cell? ⟨ba, 0, none⟩ = some (.int .i64 at_)) (hk : W.cell? ⟨bk, 0, none⟩ = some (.int .u64 keep)) (hk4 : k < 4096) (hX : ∀ k, X k → k < W.heap.size)
    (h1 : RdX X W 5 1 v1 z (u8s x)) (h2 : RdX X W 5 1 v2 z (u8s y)) :
    Calls Try.prog 73 #[.int .i64 k, v1, v2, .pointer (some ⟨bt, 0, none⟩), .pointer (some ⟨ba, 0, none⟩), .pointer (some ⟨bk, 0, none⟩)] W fun e W' =>
      ∃ v, e = .returned v ∧ RdX X W' 5 1 v z (u8s (crashF keep torn at_ k x y)) ∧ Ext (fun _ => False) W W' := by
  obtain ⟨a1, c1, rfl⟩ := h1.form
  obtain ⟨a2, c2, rfl⟩ := h2.form
  by_cases hkt : (k : Int) = torn
  · subst hkt
    obtain ⟨u2, q2, r2, o2⟩ := h2.1.cut_h (P := Try.prog) (t := 33) Try.underlying33 Try.sizeOf5 at_ haz
    obtain ⟨u1, q1, r1, o1⟩ := h1.1.cut_l (P := Try.prog) (t := 33) Try.underlying33 Try.sizeOf5 at_ haz
    have hx : x.length = z := by have := h1.1.1; simpa [u8s] using this
    have hy : y.length = z := by have := h2.1.1; simpa [u8s] using this
    obtain ⟨a3, c3, rfl⟩ := r2.form
    obtain ⟨a4, c4, rfl⟩ := r1.form
    have hfin : pcells [(Value.slice a3 at_ c3, at_, (u8s y).take (at_ * 1)), (Value.slice a4 (z - at_) c4, z - at_, (u8s x).drop (at_ * 1))] = u8s (crashF keep k at_ k x y) := by
      simp [pcells, crashF, u8s, List.map_take, List.map_drop]
    have hpl : plen [(Value.slice a3 at_ c3, at_, (u8s y).take (at_ * 1)), (Value.slice a4 (z - at_) c4, z - at_, (u8s x).drop (at_ * 1))] = z := by
      simp [plen]
      omega
    have hc : Calls Try.prog 74 #[.slice (some ⟨W.heap.size, 0, none⟩) 2 2] (W.alloc (.cells #[.slice a3 at_ c3, .slice a4 (z - at_) c4] 33)).drew fun e W' =>
        ∃ va vc, e = .returned (.slice va z vc) ∧ W'.cell? ⟨ba, 0, none⟩ = some (.int .i64 at_) ∧ Hid (RdX X W' 5 1 (.slice va z vc) z (u8s (crashF keep k at_ k x y)) ∧ Ext (fun _ => False) W W') := by
      refine (concat_any_B _ [(Value.slice a3 at_ c3, at_, (u8s y).take (at_ * 1)), (Value.slice a4 (z - at_) c4, z - at_, (u8s x).drop (at_ * 1))] _ ?_ ?_ (by rw [hpl]; omega) (by simp)).mono ?_
      · refine ⟨rfl, by simp [maxLen], 2, .inr ⟨_, 0, rfl, Nat.le_refl _, .inr ⟨_, (0, 0), heap_alloc_new W _, rfl⟩⟩⟩
      · have hkeep : KeepT 5 W (W.alloc (.cells #[.slice a3 at_ c3, .slice a4 (z - at_) c4] 33)).drew := Ext.keepT (S := fun _ => False) (((Ext.refl _ W).alloc _).drew) (fun _ _ _ _ => id)
        intro p hp
        simp only [List.mem_cons, List.not_mem_nil, or_false] at hp
        rcases hp with rfl | rfl
        · exact ⟨r2.kept hkeep, fun u hu => u8s_oneCell y u (List.mem_of_mem_take hu)⟩
        · exact ⟨r1.kept hkeep, fun u hu => u8s_oneCell x u (List.mem_of_mem_drop hu)⟩
      · rintro e W' ⟨v', rfl, ho, hb⟩
        rw [hfin, hpl] at ho
        obtain ⟨va, vc, rfl⟩ := (Rd.of_own ho).form
        have hx : Ext (fun _ => False) W W' := (((Ext.refl _ W).alloc _).drew).trans (Ext.of_below hb (Nat.le_refl _))
        exact ⟨va, vc, rfl, by rw [World.cell?_of_block (w := W) (hx.block ba (World.block_lt_of_cell? W _ ha) id)]; exact ha, RdX.of_own ho (fun k hk => by have := hX k hk; simp; omega), hx⟩
    have HC := Lib.hid hc
    clear hc hfin hpl h1 h2 r1 r2 o1 o2 hx hy haz
    have e1 : ((k : Int) == (k : Int)) = true := by simp
    have hS0 : W.drew.cell? ⟨ba, 0, none⟩ = some (.int .i64 at_) := ha
    go_enter Try.func73, Try.ntmps73
    go_wp2
    refine region_X (fun W => W.cell? ⟨ba, 0, none⟩ = some (.int .i64 at_)) (by kernel_rfl) ?_
    simp only [List.length_cons, List.length_nil, Nat.reduceAdd]
    refine AnyX.take 0 rfl (by kernel_rfl) (fun _ _ _ h => h) hS0 rfl (by intro W hW; go_simp; rfl) ?_; simp only [Act.put, List.setIfInBounds_toArray, List.set_cons_succ, List.set_cons_zero]
    refine AnyX.take 1 rfl (by kernel_rfl) (fun _ _ _ h => h) hS0 rfl (by intro W hW; go_simp; rfl) ?_; simp only [Act.put, List.setIfInBounds_toArray, List.set_cons_succ, List.set_cons_zero]
    refine AnyX.take 2 rfl (by kernel_rfl) (fun _ _ _ h => h) hS0 rfl (by intro W hW; go_simp; rfl) ?_; simp only [Act.put, List.setIfInBounds_toArray, List.set_cons_succ, List.set_cons_zero]
    refine AnyX.take 3 rfl (by kernel_rfl) (fun _ _ _ h => h) hS0 rfl (by intro W hW; go_simp; rfl) ?_; simp only [Act.put, List.setIfInBounds_toArray, List.set_cons_succ, List.set_cons_zero]
    refine AnyX.take 4 rfl (by kernel_rfl) (fun _ _ _ h => h) hS0 rfl (by intro W hW; go_simp; rfl) ?_; simp only [Act.put, List.setIfInBounds_toArray, List.set_cons_succ, List.set_cons_zero]
    refine AnyX.take 5 rfl (by kernel_rfl) (fun _ _ _ h => h) hS0 rfl (by intro W hW; go_simp; rfl) ?_; simp only [Act.put, List.setIfInBounds_toArray, List.set_cons_succ, List.set_cons_zero]
    refine AnyX.act 6 rfl (by kernel_rfl) rfl (fun K hK => ?_)
    go_wp2
    refine hK _ _ (by go_keep) ?_
    clear hK K
    refine AnyX.act 7 rfl (by kernel_rfl) rfl (fun K hK => ?_)
    go_wp2_with (go_at_call 74; refine HC.out.mono ?_; rintro e W' ⟨va, vc, rfl, hba, hres⟩)
    refine hK _ _ hba ?_
    clear hK K
    refine AnyX.end_ 8 rfl (by kernel_rfl) (by kernel_rfl) (by kernel_rfl) rfl ?_
    go_wp2
    go_ret
    exact ⟨_, rfl, hres.out⟩
  · have e1 : ((k : Int) == torn) = false := by simpa using hkt
    have hbits : bits BinOp.and IntKind.u64 ((keep : Int) / 2 ^ (k % 64)) 1 = ((keep / 2 ^ (k % 64) % 2 : Nat) : Int) := by
      have hle : keep / 2 ^ (k % 64) ≤ keep := Nat.div_le_self _ _
      rw [show ((keep : Int) / 2 ^ (k % 64)) = ((keep / 2 ^ (k % 64) : Nat) : Int) by simp]
      generalize keep / 2 ^ (k % 64) = d at *
      rw [and_one_u64 _ (by omega) (by omega)]
      omega
    have HB := Lib.hid hbits
    clear hbits
    have ek : wrap64 ((k : Int) % 64) = (k : Int) % 64 := by unfold wrap64; omega
    go_enter Try.func73, Try.ntmps73
    go_wp2
    all_goals
      go_ret
    · refine ⟨_, rfl, ?_, Ext.refl _ _⟩
      have hb : keep / 2 ^ (k % 64) % 2 = 1 := by
        have h3 : (bits BinOp.and IntKind.u64 ((keep : Int) / 2 ^ (k % 64)) 1 == 1) = true := by assumption
        rw [HB.out] at h3
        simp only [beq_iff_eq] at h3
        omega
      simp only [crashF, hkt, if_false, hb, if_true]
      exact h2
    · refine ⟨_, rfl, ?_, Ext.refl _ _⟩
      have hb : ¬ keep / 2 ^ (k % 64) % 2 = 1 := by
        have h3 : (bits BinOp.and IntKind.u64 ((keep : Int) / 2 ^ (k % 64)) 1 == 1) = false := by assumption
        rw [HB.out] at h3
        simp only [beq_eq_false_iff_ne] at h3
        omega
      simp only [crashF, hkt, if_false, hb]
      exact h1

def DS.settled (s : DS) (f : Nat → List UInt8 → List UInt8 → List UInt8) : DS := { s with sure := stk f s.dirty s.sure s.dirty.length, dirty := [] }
def DS.flush (s : DS) : DS × Int := if s.dead then (s, 32) else if s.power.2 = false then (s.power.1, 32) else (s.power.1.settled (fun _ _ l => l), 0)
def DS.crash (s : DS) (keep : Nat) (torn : Int) (at_ : Int) : DS := { s.settled (crashF keep torn (min (max at_ 0) s.size).toNat) with dead := false, cut := -1 }
def DS.cutAt (s : DS) (n : Int) : DS := { s with cut := max n 0 }

theorem flush1_any (W : World) (k : Nat) (v1 v2 : Value) (z : Nat) (x y : List UInt8) (h2 : RdX X W 5 1 v2 z (u8s y)) :
    Calls Try.prog 71 (#[.int .i64 k, v1, v2] ++ #[]) W fun e W' => ∃ v, e = .returned v ∧ RdX X W' 5 1 v z (u8s y) ∧ Ext (fun _ => False) W W' := by
  refine Calls.mono (R := fun e W' => e = .returned v2 ∧ W' = W) ?_ (by rintro e W' ⟨rfl, rfl⟩; exact ⟨_, rfl, h2, Ext.refl _ _⟩)
  simp only [Array.append_empty]
  go_enter Try.func71, Try.ntmps71
  go_wp2
  go_ret
  exact ⟨rfl, rfl⟩

theorem cut_any {w : World} {p g m : Nat} {s : DS} (h : DiskAt X w p g m s) (n : Int) (hn : n ≤ 9223372036854775807) : Calls Try.prog 18 #[.pointer (some ⟨p, 0, none⟩), .int .i64 n] w fun e w' =>
    e = .returned (.tuple #[]) ∧ DiskAt X w' p g m (s.cutAt n) ∧ Ext (· = p) w w' := by
  have hd := h.put (i := 2) (u := .int .i64 (max n 0)) (c := max n 0) (d := s.dead) (by omega) (by omega) (fun sv => rfl)
  refine Calls.mono (R := fun e w' => e = .returned (.tuple #[]) ∧ w' = w.setCell ⟨p, 2, none⟩ (.int .i64 (max n 0))) ?_ (by rintro e w' ⟨rfl, rfl⟩; exact ⟨rfl, hd, (Ext.refl (· = p) _).setCell (fun _ => rfl) _⟩)
  obtain ⟨sv, hb, _⟩ := h.blk
  have c2 := cell_of_block hb 2
  have f2 := free_of_block hb 2
  simp at c2
  clear hd h hb
  rcases Int.le_total n 0 with h0 | h0
  · rw [show max n 0 = 0 by omega]
    go_enter Try.func18, Try.ntmps18
    go_wp2
    all_goals
      go_end0
      exact ⟨rfl, by first | rfl | (congr 2; omega)⟩
  · rw [show max n 0 = n by omega]
    go_enter Try.func18, Try.ntmps18
    go_wp2
    all_goals
      go_end0
      exact ⟨rfl, by first | rfl | (congr 2; omega)⟩

set_option maxHeartbeats 1000000 in
theorem flush_any {w : World} {p g m : Nat} {s : DS} (h : DiskAt X w p g m s) : Calls Try.prog 30 #[.pointer (some ⟨p, 0, none⟩)] w fun e w' =>
    e = .returned (.int .i64 s.flush.2) ∧ DiskAt X w' p g m s.flush.1 ∧ Ext (fun k => k = p ∨ k = g ∨ k = m) w w' := by
  obtain ⟨sv, hb, _⟩ := h.blk
  have c3 := cell_of_block hb 3
  simp at c3
  clear hb
  cases hdd : s.dead
  · rw [hdd] at c3
    have HP : Calls Try.prog 41 #[.pointer (some ⟨p, 0, none⟩)] w fun e w1 => e = .returned (.int .i64 (if s.power.2 then 0 else 32)) ∧ Hid (DiskAt X w1 p g m s.power.1 ∧ Ext (· = p) w w1) := by
      refine (powered_any h).mono ?_
      rintro e w1 ⟨rfl, hd, hx⟩
      exact ⟨rfl, hd, hx⟩
    have HH := Lib.hid HP
    clear HP
    cases hpw : s.power.2
    · have e1 : s.flush = (s.power.1, 32) := by simp [DS.flush, hdd, hpw]
      rw [e1]
      rw [hpw] at HH
      refine Calls.mono (R := fun e w' => e = .returned (.int .i64 32) ∧ Hid (DiskAt X w' p g m s.power.1 ∧ Ext (· = p) w w')) ?_ (by rintro e w' ⟨rfl, hd, hx⟩; exact ⟨rfl, hd, hx.mono (fun k _ e => .inl e)⟩)
      clear h e1 hpw hdd
      generalize s.power.1 = s1 at *
      go_enter Try.func30, Try.ntmps30
      go_wp2_with (go_at_call 41; refine HH.out.mono ?_; rintro e w1 ⟨rfl, hd⟩)
      go_ret
      exact ⟨rfl, hd⟩
    · have e1 : s.flush = (s.power.1.settled (fun _ _ l => l), 0) := by simp [DS.flush, hdd, hpw]
      rw [e1]
      rw [hpw] at HH
      refine Calls.mono (R := fun e w' => e = .returned (.int .i64 0) ∧ Hid (DiskAt X w' p g m (s.power.1.settled (fun _ _ l => l)) ∧ Ext (fun k => k = p ∨ k = g ∨ k = m) w w')) ?_ (by rintro e w' ⟨rfl, hd, hx⟩; exact ⟨rfl, hd, hx⟩)
      have HS : ∀ w1, Hid (DiskAt X w1 p g m s.power.1 ∧ Ext (· = p) w w1) → Calls Try.prog 70 #[.pointer (some ⟨p, 0, none⟩), .func (.func 71) #[] #[]] w1 fun e w' => e = .returned (.tuple #[]) ∧
          Hid (DiskAt X w' p g m (s.power.1.settled (fun _ _ l => l)) ∧ Ext (fun k => k = p ∨ k = g ∨ k = m) w w') := by
        intro w1 hw1
        obtain ⟨hd, hx⟩ := hw1.out
        refine (settle_any hd 71 #[] (fun _ _ l => l) (fun _ => True) (fun _ _ _ _ => trivial) trivial (enters_of Try.func71 (by kernel_rfl) rfl)
          (fun W k v1 v2 x y _ _ _ h2 => flush1_any W k v1 v2 _ x y h2)).mono ?_
        rintro e w' ⟨rfl, hd', hx'⟩
        exact ⟨rfl, hd', (hx.mono (fun k _ e => .inl e)).trans (hx'.mono (fun k _ e => .inr e))⟩
      have HS' := Lib.hid HS
      clear h e1 hpw hdd HS
      generalize s.power.1 = s1 at *
      go_enter Try.func30, Try.ntmps30
      go_wp2_with (first | (go_at_call 41; refine HH.out.mono ?_; rintro e w1 ⟨rfl, hd⟩) | (go_at_call 70; refine (HS'.out _ hd).mono ?_; rintro e w2 ⟨rfl, hd2⟩))
      go_ret
      exact ⟨rfl, hd2⟩
  · have e1 : s.flush = (s, 32) := by simp [DS.flush, hdd]
    rw [e1]
    rw [hdd] at c3
    refine Calls.mono (R := fun e w' => e = .returned (.int .i64 32) ∧ w' = w) ?_ (by rintro e w' ⟨rfl, rfl⟩; exact ⟨rfl, h, Ext.refl _ _⟩)
    clear h e1 hdd
    go_enter Try.func30, Try.ntmps30
    go_wp2
    go_ret
    exact ⟨rfl, rfl⟩

theorem DiskAt.revived {w : World} {p g m : Nat} {s : DS} (h : DiskAt X w p g m s) : DiskAt X ((w.setCell ⟨p, 3, none⟩ (.bool false)).setCell ⟨p, 2, none⟩ (.int .i64 (-1))) p g m { s with dead := false, cut := -1 } := by
  have h1 := h.put (i := 3) (u := .bool false) (c := s.cut) (d := false) h.ok.c1 h.ok.c2 (fun sv => rfl)
  exact h1.put (i := 2) (u := .int .i64 (-1)) (c := -1) (d := false) (by omega) (by omega) (fun sv => rfl)

set_option maxHeartbeats 1000000 in
theorem crash_any {w : World} {p g m : Nat} {s : DS} (h : DiskAt X w p g m s) (keep : Nat) (hkeep : keep < 18446744073709551616) (torn at_ : Int) :
    Calls Try.prog 37 #[.pointer (some ⟨p, 0, none⟩), .int .u64 keep, .int .i64 torn, .int .i64 at_] w fun e w' =>
      e = .returned (.tuple #[]) ∧ DiskAt X w' p g m (s.crash keep torn at_) ∧ Ext (fun k => k = p ∨ k = g ∨ k = m) w w' := by
  obtain ⟨at', hat⟩ : ∃ a : Nat, (min (max at_ 0) s.size).toNat = a := ⟨_, rfl⟩
  have hat2 : min (max at_ 0) (s.size : Int) = at' := by omega
  have hat3 : at' ≤ s.size := by omega
  have hZ := h.ok.z2
  have e1 : s.crash keep torn at_ = { s.settled (crashF keep torn at') with dead := false, cut := -1 } := by simp [DS.crash, hat]
  rw [e1]
  obtain ⟨lp, lg, lm⟩ := h.lt
  refine Calls.mono (R := fun e w' => e = .returned (.tuple #[]) ∧ Hid (DiskAt X w' p g m { s.settled (crashF keep torn at') with dead := false, cut := -1 } ∧ Ext (fun k => k = p ∨ k = g ∨ k = m) w w')) ?_ (by rintro e w' ⟨rfl, hd, hx⟩; exact ⟨rfl, hd, hx⟩)
  have hs : ∀ W, Hid (DiskAt X W p g m s) → Calls Try.prog 15 #[.pointer (some ⟨p, 0, none⟩)] W fun e w' => e = .returned (.int .i64 s.size) ∧ W = w' := fun W hW => size_any hW.out
  have HS := Lib.hid hs
  have hw : ∀ W, Calls Try.prog 39 #[.int .i64 at_, .int .i64 0, .int .i64 s.size] W fun e w' => e = .returned (.int .i64 at') ∧ W = w' := fun W => by rw [← hat2]; exact within_any at_ 0 s.size W
  have HW := Lib.hid hw
  have hx1 : Ext (fun _ => False) w (((w.alloc (.cells #[.int .u64 keep] 73)).alloc (.cells #[.int .i64 torn] 3)).alloc (.cells #[.int .i64 at_] 3)).drew := ((((Ext.refl _ w).alloc _).alloc _).alloc _).drew
  have hd1 : Hid (DiskAt X (((w.alloc (.cells #[.int .u64 keep] 73)).alloc (.cells #[.int .i64 torn] 3)).alloc (.cells #[.int .i64 at_] 3)).drew p g m s) := h.kept_ext hx1 id id id (hx1.keepT (fun _ _ _ _ => id))
  have hst : Calls Try.prog 70 #[.pointer (some ⟨p, 0, none⟩), .func (.func 73) #[] #[.pointer (some ⟨w.heap.size + 1, 0, none⟩), .pointer (some ⟨w.heap.size + 1 + 1, 0, none⟩), .pointer (some ⟨w.heap.size, 0, none⟩)]]
      (((w.alloc (.cells #[.int .u64 keep] 73)).alloc (.cells #[.int .i64 torn] 3)).alloc (.cells #[.int .i64 at'] 3)).drew fun e w' => e = .returned (.tuple #[]) ∧
        w'.cell? ⟨p, 3, none⟩ = some (.bool s.dead) ∧ w'.frozen? ⟨p, 3, none⟩ = false ∧ w'.cell? ⟨p, 2, none⟩ = some (.int .i64 s.cut) ∧ w'.frozen? ⟨p, 2, none⟩ = false ∧
        Hid (DiskAt X ((w'.setCell ⟨p, 3, none⟩ (.bool false)).setCell ⟨p, 2, none⟩ (.int .i64 (-1))) p g m { s.settled (crashF keep torn at') with dead := false, cut := -1 } ∧ Ext (fun k => k = p ∨ k = g ∨ k = m) w ((w'.setCell ⟨p, 3, none⟩ (.bool false)).setCell ⟨p, 2, none⟩ (.int .i64 (-1)))) := by
    have hx2 : Ext (fun _ => False) w (((w.alloc (.cells #[.int .u64 keep] 73)).alloc (.cells #[.int .i64 torn] 3)).alloc (.cells #[.int .i64 at'] 3)).drew := ((((Ext.refl _ w).alloc _).alloc _).alloc _).drew
    have hd2 := h.kept_ext hx2 id id id (hx2.keepT (fun _ _ _ _ => id))
    have b0 : (((w.alloc (.cells #[.int .u64 keep] 73)).alloc (.cells #[.int .i64 torn] 3)).alloc (.cells #[.int .i64 at'] 3)).drew.heap[w.heap.size]? = some (.cells #[.int .u64 keep] 73) := by
      show (((w.alloc _).alloc _).alloc _).heap[_]? = _
      rw [heap_alloc_lt (by simp; omega), heap_alloc_lt (by simp)]
      exact heap_alloc_new w _
    have b1 : (((w.alloc (.cells #[.int .u64 keep] 73)).alloc (.cells #[.int .i64 torn] 3)).alloc (.cells #[.int .i64 at'] 3)).drew.heap[w.heap.size + 1]? = some (.cells #[.int .i64 torn] 3) := by
      show (((w.alloc _).alloc _).alloc _).heap[_]? = _
      rw [heap_alloc_lt (by simp)]
      have := heap_alloc_new (w.alloc (.cells #[.int .u64 keep] 73)) (.cells #[.int .i64 torn] 3)
      simpa using this
    have b2 : (((w.alloc (.cells #[.int .u64 keep] 73)).alloc (.cells #[.int .i64 torn] 3)).alloc (.cells #[.int .i64 at'] 3)).drew.heap[w.heap.size + 1 + 1]? = some (.cells #[.int .i64 at'] 3) := by
      have h0 := heap_alloc_new ((w.alloc (.cells #[.int .u64 keep] 73)).alloc (.cells #[.int .i64 torn] 3)) (.cells #[.int .i64 at'] 3)
      simp only [World.size_alloc] at h0
      exact h0
    generalize (((w.alloc (.cells #[.int .u64 keep] 73)).alloc (.cells #[.int .i64 torn] 3)).alloc (.cells #[.int .i64 at'] 3)).drew = W at *
    refine (settle_any hd2 73 _ (crashF keep torn at') (fun W' => W'.heap[w.heap.size]? = some (.cells #[.int .u64 keep] 73) ∧ W'.heap[w.heap.size + 1]? = some (.cells #[.int .i64 torn] 3) ∧ W'.heap[w.heap.size + 1 + 1]? = some (.cells #[.int .i64 at'] 3) ∧ ∀ k, X k → k < W'.heap.size)
      ?_ ⟨b0, b1, b2, hd2.low⟩ (enters_of Try.func73 (by kernel_rfl) rfl) ?_).mono ?_
    · rintro W1 W2 ⟨q0, q1, q2, q3⟩ hx
      exact ⟨(hx.block _ (lt_of_heap q0) (by omega)).trans q0, (hx.block _ (lt_of_heap q1) (by omega)).trans q1, (hx.block _ (lt_of_heap q2) (by omega)).trans q2, fun k hk => Nat.lt_of_lt_of_le (q3 k hk) hx.size⟩
    · rintro W1 k v1 v2 x y ⟨q0, q1, q2, q3⟩ hk r1 r2
      exact crash1_any keep hkeep torn at' s.size hat3 hZ _ _ _ W1 k v1 v2 x y (by rw [cell_of_block q1]; rfl) (by rw [cell_of_block q2]; rfl) (by rw [cell_of_block q0]; rfl) hk q3 r1 r2
    · rintro e w' ⟨rfl, hd', hx'⟩
      obtain ⟨sv, hb, _⟩ := hd'.blk
      refine ⟨rfl, by rw [cell_of_block hb]; rfl, free_of_block hb _, by rw [cell_of_block hb]; rfl, free_of_block hb _, hd'.revived, ?_⟩
      have hx3 : Ext (fun k => k = p ∨ k = g ∨ k = m) w w' := (hx2.mono (fun _ _ e => e.elim)).trans (hx'.mono (fun k _ e => .inr e))
      exact (hx3.setCell (fun _ => .inl rfl) _).setCell (fun _ => .inl rfl) _
  have HST := Lib.hid hst
  have hmf : ∀ (fn : Fn) (first cap : Array Value) (w : World), (Instr.makeFunc fn first cap).run Try.prog w = .ok (.func fn first cap) w := fun _ _ _ _ => rfl
  have hS0 : (((w.alloc (.cells #[.int .u64 keep] 73)).alloc (.cells #[.int .i64 torn] 3)).alloc (.cells #[.int .i64 at_] 3)).drew.cell? ⟨w.heap.size + 1 + 1, 0, none⟩ = some (.int .i64 at_) := by
    have h0 := heap_alloc_new ((w.alloc (.cells #[.int .u64 keep] 73)).alloc (.cells #[.int .i64 torn] 3)) (.cells #[.int .i64 at_] 3)
    simp only [World.size_alloc] at h0
    exact cell_of_block (w := ((((w.alloc (.cells #[.int .u64 keep] 73)).alloc (.cells #[.int .i64 torn] 3)).alloc (.cells #[.int .i64 at_] 3)).drew)) h0 0
  clear hst hs hw hx1 h e1 hat hat2
  go_enter Try.func37, Try.ntmps37
  go_wp2_with fail
  refine region_X (fun W => W.cell? ⟨w.heap.size + 1 + 1, 0, none⟩ = some (.int .i64 at_)) (by kernel_rfl) ?_
  simp only [List.length_cons, List.length_nil, Nat.reduceAdd]
  refine AnyX.take 0 rfl (by kernel_rfl) (fun _ _ _ h => h) hS0 rfl (by intro W hW; go_simp; rfl) ?_; simp only [Act.put, List.setIfInBounds_toArray, List.set_cons_succ, List.set_cons_zero]
  refine AnyX.take 1 rfl (by kernel_rfl) (fun _ _ _ h => h) hS0 rfl (by intro W hW; go_simp; rfl) ?_; simp only [Act.put, List.setIfInBounds_toArray, List.set_cons_succ, List.set_cons_zero]
  refine AnyX.take 2 rfl (by kernel_rfl) (fun _ _ _ h => h) hS0 rfl (by intro W hW; go_simp; rfl) ?_; simp only [Act.put, List.setIfInBounds_toArray, List.set_cons_succ, List.set_cons_zero]
  refine AnyX.take 3 rfl (by kernel_rfl) (fun _ _ _ h => h) hS0 rfl (by intro W hW; go_simp; rfl) ?_; simp only [Act.put, List.setIfInBounds_toArray, List.set_cons_succ, List.set_cons_zero]
  refine AnyX.act 4 rfl (by kernel_rfl) rfl (fun K hK => ?_)
  go_wp2_with (go_at_call 15; refine (HS.out _ hd1).mono ?_; rintro e w' ⟨rfl, rfl⟩)
  refine hK _ _ hS0 ?_
  clear hK K
  refine AnyX.act 5 rfl (by kernel_rfl) rfl (fun K hK => ?_)
  go_wp2_with (go_at_call 39; refine (HW.out _).mono ?_; rintro e w' ⟨rfl, rfl⟩)
  refine hK _ _ hS0 ?_
  clear hK K
  refine AnyX.end_ 6 rfl (by kernel_rfl) (by kernel_rfl) (by kernel_rfl) rfl ?_
  go_wp2_with (go_at_call 70; refine HST.out.mono ?_; rintro e w' ⟨rfl, d3, f3, d2, f2, hres⟩)
  go_end0
  exact ⟨rfl, hres.out⟩
end Go.Proofs.Ytekolejeliefdaa
