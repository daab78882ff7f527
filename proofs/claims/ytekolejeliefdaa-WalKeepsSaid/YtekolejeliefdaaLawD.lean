/- Layer 3's known case. -/
import Derived.Test.YtekolejeliefdaaDiskF
set_option linter.unusedVariables false
set_option linter.unusedSimpArgs false
namespace Go.Proofs.Ytekolejeliefdaa
open Go.RowKit
variable {X : Nat → Prop}

def kb : List UInt8 := 7 :: (List.replicate 8 0 ++ 7 :: List.replicate 54 0)
def kst : Nat → DS
  | 0 => DS.new 4 64
  | k + 1 => ((kst k).write (k + 1 : Nat) kb).1
def kcr : DS := (kst 3).crash 6 2 5
theorem kst_w : ∀ k, k < 3 → ((kst k).write (k + 1 : Nat) kb).2 = 0 := by decide +kernel
theorem kcr_at : kcr.at 1 = 0 ∧ kcr.at 2 = 0 ∧ kcr.at 3 = 0 := by decide +kernel
theorem kcr_read : kcr.read 1 = List.replicate 64 0 ∧ kcr.read 2 = kb ∧ kcr.read 3 = 7 :: List.replicate 63 0 := by decide +kernel
theorem kcr_flush : (kcr.cutAt 0).flush.2 = 32 ∧ (kcr.cutAt 0).flush.1.dead = true := by decide +kernel
theorem kst_size : (DS.new 4 64).sure.length = 4 ∧ (DS.new 4 64).size = 64 := by decide +kernel

theorem ret_bool {a b : Bool} (h : a = b) : Ending.returned (.bool a) = .returned (.bool b) := by rw [h]

/-- What is done to blocks of the call's own leaves what lay before it. -/
theorem old_below {w0 w w1 : World} {p g m : Nat} (hb : w0.heap.size ≤ p ∧ w0.heap.size ≤ g ∧ w0.heap.size ≤ m) (h : Below w0.heap.size w0 w) {S : Nat → Prop} (hx : Ext S w w1) (hS : ∀ k, S k → k = p ∨ k = g ∨ k = m) : Below w0.heap.size w0 w1 :=
  h.trans (hx.below (fun k hk hs => by rcases hS k hs with rfl | rfl | rfl <;> omega) h.size)
/-- Blocks of bytes outlast what a disk does to its own. -/
theorem DiskAt.keep5 {w w1 : World} {p g m : Nat} {s : DS} (h : DiskAt X w p g m s) {S : Nat → Prop} (hx : Ext S w w1) (hS : ∀ k, S k → k = p ∨ k = g ∨ k = m) : KeepT 5 w w1 := by
  refine hx.keepT ?_
  intro b cur fr hq hs
  rcases hS b hs with rfl | rfl | rfl
  · obtain ⟨sv, hb, _⟩ := h.blk
    rw [hb] at hq
    simp at hq
  · obtain ⟨sv, hb, cap, c2, _, hg, _⟩ := h.blk
    rw [hg] at hq
    simp at hq
  · obtain ⟨l, hm, _⟩ := h.map
    exact hm.noCells _ _ _ hq

/-- A sector that is read, its slice written out. -/
theorem read_at {w : World} {p g m : Nat} {s : DS} (h : DiskAt X w p g m s) (i : Int) (hi : s.at i = 0) {n : Nat} {x : List UInt8} (hx : s.read i = x) (hn : x.length = n) (h0 : 0 < n) :
    Calls Try.prog 17 #[.pointer (some ⟨p, 0, none⟩), .int .i64 i] w fun e w' => ∃ b off c, e = .returned (.tuple #[.slice (some ⟨b, off, none⟩) n c, .int .i64 0]) ∧
      Hid (w.heap.size ≤ b ∧ Rd w' 5 1 (.slice (some ⟨b, off, none⟩) n c) n (u8s x) ∧ DiskAt X w' p g m s ∧ Below w.heap.size w w') := by
  refine (read_any h i).mono ?_
  rintro e w' ⟨v, rfl, ho, hb⟩
  rw [hx, hn] at ho
  obtain ⟨b, c, rfl, hbb, _⟩ := ho.form h0
  have hxx : Ext (fun _ => False) w w' := Ext.of_below hb (Nat.le_refl _)
  rw [hi]
  exact ⟨b, 0, c, rfl, hbb, Rd.of_own ho, h.kept_ext hxx id id id (hxx.keepT (fun _ _ _ _ => id)), hb⟩

set_option maxRecDepth 100000 in
set_option maxHeartbeats 2000000 in
theorem known3 (w : World) : Calls Try.prog 12 #[] w fun e w' => e = .returned (.bool true) ∧ Below w.heap.size w w' := by
  have hmk : ∀ W : World, (Instr.makeSlice 33 (.int .i64 64) (.int .i64 64)).run Try.prog W = .ok (.slice (some ⟨W.heap.size, 0, none⟩) 64 64) (W.alloc (.cells (madeCells #[.int .u8 0] 64) 5)) :=
    fun W => run_make_row' 33 5 (.int .u8 0) 1 Try.underlying33 (by kernel_rfl) rfl .i64 .i64 64 (by omega) (by omega) W
  have hm0 := made_at (.int .u8 0) 64 0 (by omega)
  have hm9 := made_at (.int .u8 0) 64 9 (by omega)
  have HN : Calls Try.prog 13 #[.int .i64 4, .int .i64 64] w fun e w' => ∃ p g m, e = .returned (.pointer (some ⟨p, 0, none⟩)) ∧ Hid ((w.heap.size ≤ p ∧ w.heap.size ≤ g ∧ w.heap.size ≤ m) ∧ DiskAt (· < w.heap.size) w' p g m (kst 0) ∧ Below w.heap.size w w') := by
    refine (new_any 4 64 w).mono ?_
    rintro e w' ⟨p, g, m, rfl, h1, h2, h3, h4, h5⟩
    exact ⟨p, g, m, rfl, ⟨h1, h2, h3⟩, h4, h5⟩
  have HN' := Lib.hid HN
  clear HN
  go_enter Try.func12, Try.ntmps12
  go_wp2_with (go_at_call 13; refine HN'.out.mono ?_; rintro e w1 ⟨p, g, m, rfl, H1⟩)
  have hsec : Calls Try.prog 14 #[.pointer (some ⟨p, 0, none⟩)] w1 fun e w' => e = .returned (.int .i64 4) ∧ w1 = w' := by
    have := sectors_any H1.out.2.1
    simp only [kst, kst_size.1] at this
    exact this
  refine hsec.mono ?_
  clear hsec
  rintro e w' ⟨rfl, rfl⟩
  go_wp2_with fail
  have hsiz : Calls Try.prog 15 #[.pointer (some ⟨p, 0, none⟩)] w1 fun e w' => e = .returned (.int .i64 64) ∧ w1 = w' := by
    have := size_any H1.out.2.1
    simp only [kst, kst_size.2] at this
    exact this
  refine hsiz.mono ?_
  clear hsiz
  rintro e w' ⟨rfl, rfl⟩
  go_wp2_with fail
  have hw2 : Ext (fun _ => False) w1 (w1.alloc (.cells (((madeCells #[.int .u8 0] 64).setIfInBounds 0 (.int .u8 7)).setIfInBounds 9 (.int .u8 7)) 5)) := (Ext.refl _ w1).alloc _
  have hrb : Rd (w1.alloc (.cells (((madeCells #[.int .u8 0] 64).setIfInBounds 0 (.int .u8 7)).setIfInBounds 9 (.int .u8 7)) 5)) 5 1 (.slice (some ⟨w1.heap.size, 0, none⟩) 64 64) 64 (u8s kb) :=
    ⟨by kernel_rfl, by simp [maxLen], 64, .inr ⟨w1.heap.size, 0, rfl, Nat.le_refl _, .inr ⟨_, (0, 0), heap_alloc_new w1 _, by kernel_rfl⟩⟩⟩
  have hinv : Hid (∃ wr0, DiskAt (· < w.heap.size) (w1.alloc (.cells (((madeCells #[.int .u8 0] 64).setIfInBounds 0 (.int .u8 7)).setIfInBounds 9 (.int .u8 7)) 5)) p g m (kst 0) ∧ Rd (w1.alloc (.cells (((madeCells #[.int .u8 0] 64).setIfInBounds 0 (.int .u8 7)).setIfInBounds 9 (.int .u8 7)) 5)) 5 1 (.slice (some ⟨w1.heap.size, 0, none⟩) 64 64) 64 (u8s kb) ∧ Below w.heap.size w (w1.alloc (.cells (((madeCells #[.int .u8 0] 64).setIfInBounds 0 (.int .u8 7)).setIfInBounds 9 (.int .u8 7)) 5)) ∧ wr0 = w) :=
    ⟨w, H1.out.2.1.alloc _, hrb, H1.out.2.2.alloc H1.out.2.2.size _, rfl⟩
  clear hw2 hrb
  go_loopw [3] (fun t wr => ∃ k : Nat, k ≤ 3 ∧ t = .int .i64 ((k : Int) + 1) ∧ Hid (DiskAt (· < w.heap.size) wr p g m (kst k) ∧ Rd wr 5 1 (.slice (some ⟨w1.heap.size, 0, none⟩) 64 64) 64 (u8s kb) ∧ Below w.heap.size w wr)) (fun t _ => 4 - (intOf t).toNat)
  case atStart => exact ⟨0, by omega, rfl, by obtain ⟨_, a, b, c, _⟩ := hinv.out; exact ⟨a, b, c⟩⟩
  case round =>
    obtain ⟨k, hk, rfl, hin⟩ := hrel
    by_cases hlt : k < 3
    · have hwr : Calls Try.prog 16 #[.pointer (some ⟨p, 0, none⟩), .int .i64 ((k : Int) + 1), .slice (some ⟨w1.heap.size, 0, none⟩) 64 64] wr fun e w' => e = .returned (.int .i64 0) ∧ Hid (DiskAt (· < w.heap.size) w' p g m (kst (k + 1)) ∧ Rd w' 5 1 (.slice (some ⟨w1.heap.size, 0, none⟩) 64 64) 64 (u8s kb) ∧ Below w.heap.size w w') := by
        obtain ⟨hd, hr, hbl⟩ := hin.out
        refine (write_any hd ((k : Int) + 1) hr).mono ?_
        rintro e w' ⟨rfl, hd', hx⟩
        refine ⟨by rw [show ((k : Int) + 1) = ((k + 1 : Nat) : Int) by omega, kst_w k hlt], hd', hr.kept (hd.keep5 hx (fun k h => h.imp id .inr)), old_below H1.out.1 hbl hx (fun k h => h.imp id .inr)⟩
      have HW := Lib.hid hwr
      clear hwr hinv
      go_wp2_with (go_at_call 16; refine HW.out.mono ?_; rintro e w' ⟨rfl, hn⟩)
      go_roundw
      case rel => exact ⟨k + 1, by omega, by go_num, hn⟩
      case measure => simp [intOf]; omega
    · obtain rfl : k = 3 := by omega
      have hcr : Calls Try.prog 37 #[.pointer (some ⟨p, 0, none⟩), .int .u64 6, .int .i64 2, .int .i64 5] wr fun e w' => e = .returned (.tuple #[]) ∧ Hid (DiskAt (· < w.heap.size) w' p g m kcr ∧ Below w.heap.size w w') := by
        obtain ⟨hd, hr, hbl⟩ := hin.out
        refine (crash_any hd 6 (by omega) 2 5).mono ?_
        rintro e w' ⟨rfl, hd', hx⟩
        exact ⟨rfl, hd', old_below H1.out.1 hbl hx (fun k h => h)⟩
      have HC := Lib.hid hcr
      clear hcr hinv
      go_wp2_with (go_at_call 37; refine HC.out.mono ?_; rintro e w2 ⟨rfl, H2⟩)
      have hr1 := read_at H2.out.1 1 kcr_at.1 kcr_read.1 (n := 64) (by decide +kernel) (by omega)
      have HR1 := Lib.hid hr1
      clear hr1
      refine HR1.out.mono ?_
      rintro e w3 ⟨b1, o1, c1, rfl, H3⟩
      go_wp2_with fail
      have hr2 := read_at H3.out.2.2.1 2 kcr_at.2.1 kcr_read.2.1 (n := 64) (by decide +kernel) (by omega)
      have HR2 := Lib.hid hr2
      clear hr2
      refine HR2.out.mono ?_
      rintro e w4 ⟨b2, o2, c2, rfl, H4⟩
      go_wp2_with fail
      have hr3 := read_at H4.out.2.2.1 3 kcr_at.2.2 kcr_read.2.2 (n := 64) (by decide +kernel) (by omega)
      have HR3 := Lib.hid hr3
      clear hr3
      refine HR3.out.mono ?_
      rintro e w5 ⟨b3, o3, c3, rfl, H5⟩
      go_wp2_with fail
      have hcut := cut_any H5.out.2.2.1 0 (by omega)
      have HCU := Lib.hid hcut
      clear hcut
      refine HCU.out.mono ?_
      rintro e w6 ⟨rfl, hd6, hx6⟩
      have H6 := Lib.hid (And.intro hd6 hx6)
      clear hd6 hx6
      go_wp2_with fail
      have hfl := flush_any H6.out.1
      rw [kcr_flush.1] at hfl
      have HFL := Lib.hid hfl
      clear hfl
      refine HFL.out.mono ?_
      rintro e w7 ⟨rfl, hd7, hx7⟩
      have hk67 := (H5.out.2.2.1.keep5 H6.out.2 (fun k h => .inl h)).trans (H6.out.1.keep5 hx7 (fun k h => h))
      have hb7 : Below w.heap.size w w7 := by
        have q3 := H2.out.2.trans (H3.out.2.2.2.mono H2.out.2.size)
        have q4 := q3.trans (H4.out.2.2.2.mono q3.size)
        have q5 := q4.trans (H5.out.2.2.2.mono q4.size)
        exact old_below H1.out.1 (old_below H1.out.1 q5 H6.out.2 (fun k h => .inl h)) hx7 (fun k h => h)
      have hdd := dead_any hd7
      rw [kcr_flush.2] at hdd
      have kb45 : KeepT 5 w4 w5 := fun b cur fr hb => (H5.out.2.2.2.block b (lt_of_heap hb)).trans hb
      have kb34 : KeepT 5 w3 w4 := fun b cur fr hb => (H4.out.2.2.2.block b (lt_of_heap hb)).trans hb
      have x1 := (((H3.out.2.1.kept kb34).kept kb45).kept hk67)
      have x2 := ((H4.out.2.1.kept kb45).kept hk67)
      have x3 := (H5.out.2.1.kept hk67)
      have a1 : w7.cell? ⟨b1, o1, none⟩ = some (.int .u8 0) := x1.news 0 (.int .u8 0) (by kernel_rfl)
      have a2 : w7.cell? ⟨b2, o2 + 9, none⟩ = some (.int .u8 7) := x2.news 9 (.int .u8 7) (by kernel_rfl)
      have a3 : w7.cell? ⟨b3, o3, none⟩ = some (.int .u8 7) := x3.news 0 (.int .u8 7) (by kernel_rfl)
      have a4 : w7.cell? ⟨b3, o3 + 9, none⟩ = some (.int .u8 0) := x3.news 9 (.int .u8 0) (by kernel_rfl)
      clear x1 x2 x3
      go_wp2_with (go_at_call 38; refine hdd.mono ?_; rintro e w' ⟨rfl, rfl⟩)
      go_ret
      exact ⟨rfl, hb7⟩
end Go.Proofs.Ytekolejeliefdaa
