/- Layer 3's law of bounds. -/
import Derived.Test.YtekolejeliefdaaLawD
import Derived.Lib.SlBytesRow
set_option linter.unusedVariables false
set_option linter.unusedSimpArgs false
namespace Go.Proofs.Ytekolejeliefdaa
open Go.RowKit

theorem new_len (n size : Int) : ((DS.new n size).sure.length : Int) = min (max n 1) 4096 ∧ ((DS.new n size).size : Int) = min (max size 64) 4096 := by
  simp [DS.new]
  omega

theorem bounds_any (n size : Int) (w : World) : Calls Try.prog 3 #[.int .i64 n, .int .i64 size] w fun e w' => e = .returned (.bool true) ∧ Below w.heap.size w w' := by
  obtain ⟨z, hz⟩ : ∃ z : Int, min (if 20 < n ∧ 100 < size then 64 else size) 70000 = z := ⟨_, rfl⟩
  have HK := Lib.hid (known3 w)
  have HN : ∀ w1 z, Calls Try.prog 13 #[.int .i64 n, .int .i64 z] w1 fun e w' => ∃ p : Nat, e = .returned (.pointer (some ⟨p, 0, none⟩)) ∧
      Hid (Below w1.heap.size w1 w' ∧ Calls Try.prog 14 #[.pointer (some ⟨p, 0, none⟩)] w' (fun e w2 => e = .returned (.int .i64 (min (max n 1) 4096)) ∧ w' = w2) ∧
        Calls Try.prog 15 #[.pointer (some ⟨p, 0, none⟩)] w' (fun e w2 => e = .returned (.int .i64 (min (max z 64) 4096)) ∧ w' = w2)) := by
    intro w1 z
    refine (new_any n z w1).mono ?_
    rintro e w' ⟨p, g, m, rfl, h1, h2, h3, h4, h5⟩
    have q1 := sectors_any h4
    have q2 := size_any h4
    rw [(new_len n z).1] at q1
    rw [(new_len n z).2] at q2
    exact ⟨p, rfl, h5, q1, q2⟩
  have HN' := Lib.hid HN
  clear HN
  clear hz z
  by_cases h1 : 20 < n
  · by_cases h2 : 100 < size
    · go_enter Try.func3, Try.ntmps3
      go_wp2_with (first | (go_at_call 12; refine HK.out.mono ?_; rintro e w1 ⟨rfl, hb1⟩) | (go_at_call 13; refine (HN'.out _ _).mono ?_; rintro e w2 ⟨p, rfl, H2⟩) | (go_at_call 14; refine H2.out.2.1.mono ?_; rintro e w' ⟨rfl, rfl⟩) | (go_at_call 15; refine H2.out.2.2.mono ?_; rintro e w' ⟨rfl, rfl⟩))
      go_ret
      exact ⟨rfl, hb1.trans (H2.out.1.mono hb1.size)⟩
    · go_enter Try.func3, Try.ntmps3
      go_wp2_with (first | (go_at_call 12; refine HK.out.mono ?_; rintro e w1 ⟨rfl, hb1⟩) | (go_at_call 13; refine (HN'.out _ _).mono ?_; rintro e w2 ⟨p, rfl, H2⟩) | (go_at_call 14; refine H2.out.2.1.mono ?_; rintro e w' ⟨rfl, rfl⟩) | (go_at_call 15; refine H2.out.2.2.mono ?_; rintro e w' ⟨rfl, rfl⟩))
      go_ret
      exact ⟨rfl, hb1.trans (H2.out.1.mono hb1.size)⟩
  · go_enter Try.func3, Try.ntmps3
    go_wp2_with (first | (go_at_call 12; refine HK.out.mono ?_; rintro e w1 ⟨rfl, hb1⟩) | (go_at_call 13; refine (HN'.out _ _).mono ?_; rintro e w2 ⟨p, rfl, H2⟩) | (go_at_call 14; refine H2.out.2.1.mono ?_; rintro e w' ⟨rfl, rfl⟩) | (go_at_call 15; refine H2.out.2.2.mono ?_; rintro e w' ⟨rfl, rfl⟩))
    go_ret
    exact ⟨rfl, hb1.trans (H2.out.1.mono hb1.size)⟩

theorem tmod_place (k n : Int) (hn : 0 < n) : (k.tmod n < 0 → k.tmod n + n = k % n) ∧ (0 ≤ k.tmod n → k.tmod n = k % n) := by
  have h0 := Int.emod_nonneg k (Int.ne_of_gt hn)
  have h1 := Int.emod_lt_of_pos k hn
  rw [Int.tmod_eq_emod]
  split <;> omega
/-- 'augurhelp.Place': what is left of a division, from nought on. -/
theorem place_any (k n : Int) (hn : 0 < n ∧ n ≤ 9223372036854775807) (w : World) : Calls Try.prog 19 #[.int .i64 k, .int .i64 n] w fun e w' => e = .returned (.int .i64 (k % n)) ∧ w = w' := by
  have hz : (n == 0) = false := by simp; omega
  have hz2 : ¬ n = 0 := by omega
  have hz3 : ¬ n = -1 := by omega
  have h0 := Int.emod_nonneg k (Int.ne_of_gt hn.1)
  have h1 := Int.emod_lt_of_pos k hn.1
  obtain ⟨q1, q2⟩ := tmod_place k n hn.1
  by_cases h : k.tmod n < 0
  · have hw : wrap64 (k.tmod n + n) = k % n := by rw [q1 h]; exact IntWalk.wrap64_in _ (by omega)
    clear q1 q2 h0 h1
    go_enter Try.func19, Try.ntmps19
    go_wp2
    go_ret
    simp [hw]
  · have hw := q2 (by omega)
    clear q1 q2 h0 h1
    go_enter Try.func19, Try.ntmps19
    go_wp2
    go_ret
    simp [hw]
theorem places (cut : Int) : cut % 2 = 0 ∨ cut % 2 = 1 := by omega
def cb (x : UInt8) : List UInt8 := x :: List.replicate 63 0
theorem cst_w (x : UInt8) : ((DS.new 3 64).write 1 (cb x)).2 = 0 := rfl
def cst (x : UInt8) : DS := ((DS.new 3 64).write 1 (cb x)).1
theorem cst_at (x : UInt8) : (cst x).at 1 = 0 := rfl
theorem cst_read (x : UInt8) : (cst x).read 1 = cb x := rfl
theorem cst_cut0 (x y : UInt8) : (((cst x).cutAt 0).write 2 (cb y)).2 = 32 ∧ (((cst x).cutAt 0).write 0 (cb y)).2 = 32 ∧ (((cst x).cutAt 0).write 0 (cb y)).1.at 1 = 32 ∧ (((cst x).cutAt 0).write 0 (cb y)).1.read 1 = [] := ⟨rfl, rfl, rfl, rfl⟩
theorem cst_cut1 (x y : UInt8) : (((cst x).cutAt 1).write 2 (cb y)).2 = 0 ∧ (((cst x).cutAt 1).write 0 (cb y)).2 = 0 ∧ (((cst x).cutAt 1).write 0 (cb y)).1.at 1 = 0 ∧ (((cst x).cutAt 1).write 0 (cb y)).1.read 1 = cb x ∧
    (((cst x).cutAt 1).write 2 (cb y)).1.at 0 = 0 ∧ (((cst x).cutAt 1).write 2 (cb y)).1.read 0 = List.replicate 64 0 := ⟨rfl, rfl, rfl, rfl, rfl, rfl⟩

/-- A slice of bytes, told as a string. -/
theorem Rd.str {w : World} {b off n c : Nat} {xs : List UInt8} (h : Rd w 5 1 (.slice (some ⟨b, off, none⟩) n c) n (u8s xs)) :
    (Go.convert 33 9 (.slice (some ⟨b, off, none⟩) n c)).run Try.prog w = .ok (.string ⟨xs.toArray⟩) w := by
  have hl : xs.length = n := by have := h.1; simpa [u8s] using this
  have hs : (⟨xs.toArray⟩ : ByteArray).size = n := hl
  have := Lib.run_convert_whole (P := Try.prog) w 33 5 9 Try.underlying33 Try.underlying5 Try.underlying9 b off ⟨xs.toArray⟩ (fun i hi => ?_) c
  · rw [hs] at this
    exact this
  · have h1 := h.cell (by omega)
    obtain ⟨b', off', c', e1, _, h2⟩ := h1
    simp only [Value.slice.injEq, Option.some.injEq, Addr.mk.injEq, and_true, true_and] at e1
    obtain ⟨⟨rfl, rfl⟩, rfl⟩ := e1
    have hi' : i < xs.length := by omega
    rw [h2 i (by omega)]
    simp only [u8s, List.getElem?_map, List.getElem?_eq_getElem hi', Option.map_some, u8]
    rfl

theorem Ext.in_below {B : Nat} {S : Nat → Prop} {w0 w w1 : World} (h : Below B w0 w) (hx : Ext S w w1) (hS : ∀ k, S k → B ≤ k) (hB : B ≤ w0.heap.size) : Below B w0 w1 :=
  h.trans (hx.below (fun k hk hs => by have := hS k hs; omega) (by have := h.size; omega))


theorem cb_add (x : UInt8) : ((x.toNat : Int) + 1) % 256 = ((x + 1).toNat : Int) := by simp

/-- A disk, and what it does to blocks of its own only. -/
theorem DiskAt.past {X : Nat → Prop} {w w1 : World} {p g m : Nat} {s : DS} (h : DiskAt X w p g m s) {S : Nat → Prop} (hx : Ext S w w1) (hp : ¬ S p) (hg : ¬ S g) (hm : ¬ S m) (hk : KeepT 5 w w1) : DiskAt X w1 p g m s := h.kept_ext hx hp hg hm hk

/-- A slice whose one block is kept. -/
theorem Rd.keptAt {w w1 : World} {e : TypeId} {k n b off c : Nat} {cs : List Value} {B : Nat → Prop} (h : Rd w e k (.slice (some ⟨b, off, none⟩) n c) n cs) (hB : B b ∨ True) (hk : ∀ (cur : Array Value) (fr : Nat × Nat), w.heap[b]? = some (Obj.cells cur e fr) → w1.heap[b]? = some (Obj.cells cur e fr)) : Rd w1 e k (.slice (some ⟨b, off, none⟩) n c) n cs := by
  obtain ⟨h1, h2, c', h3⟩ := h
  refine ⟨h1, h2, c', ?_⟩
  rcases h3 with h3 | ⟨b', off', e1, hc, h3 | ⟨cur, fr, hb, ht⟩⟩
  · exact .inl h3
  · exact .inr ⟨b', off', e1, hc, .inl h3⟩
  · simp only [Value.slice.injEq, Option.some.injEq, Addr.mk.injEq, and_true, true_and] at e1
    obtain ⟨⟨rfl, rfl⟩, rfl⟩ := e1
    exact .inr ⟨b, off, rfl, hc, .inr ⟨cur, fr, hk cur fr hb, ht⟩⟩

set_option maxRecDepth 100000 in
set_option maxHeartbeats 2000000 in
theorem copies_any (x : UInt8) (cut : Int) (w : World) : Calls Try.prog 4 #[.int .u8 x.toNat, .int .i64 cut] w fun e w' => e = .returned (.bool true) ∧ Below w.heap.size w w' := by
  have hmk : ∀ W : World, (Instr.makeSlice 33 (.int .i64 64) (.int .i64 64)).run Try.prog W = .ok (.slice (some ⟨W.heap.size, 0, none⟩) 64 64) (W.alloc (.cells (madeCells #[.int .u8 0] 64) 5)) :=
    fun W => run_make_row' 33 5 (.int .u8 0) 1 Try.underlying33 (by kernel_rfl) rfl .i64 .i64 64 (by omega) (by omega) W
  have hm0 := made_at (.int .u8 0) 64 0 (by omega)
  have HK := Lib.hid (known3 w)
  have HN : ∀ w1, Calls Try.prog 13 #[.int .i64 3, .int .i64 64] w1 fun e w' => ∃ p g m : Nat, e = .returned (.pointer (some ⟨p, 0, none⟩)) ∧
      Hid ((w1.heap.size ≤ p ∧ w1.heap.size ≤ g ∧ w1.heap.size ≤ m) ∧ DiskAt (· < w1.heap.size) w' p g m (DS.new 3 64) ∧ Below w1.heap.size w1 w') := by
    intro w1
    refine (new_any 3 64 w1).mono ?_
    rintro e w' ⟨p, g, m, rfl, h1, h2, h3, h4, h5⟩
    exact ⟨p, g, m, rfl, ⟨h1, h2, h3⟩, h4, h5⟩
  have HN' := Lib.hid HN
  have HP : ∀ W, Calls Try.prog 19 #[.int .i64 cut, .int .i64 2] W fun e w' => e = .returned (.int .i64 (cut % 2)) ∧ W = w' := fun W => place_any cut 2 (by omega) W
  have HP' := Lib.hid HP
  clear HN HP
  go_enter Try.func4, Try.ntmps4
  go_wp2_with (first | (go_at_call 12; refine HK.out.mono ?_; rintro e w1 ⟨rfl, hb1⟩) | (go_at_call 13; refine (HN'.out _).mono ?_; rintro e w2 ⟨p, g, m, rfl, H2⟩))
  obtain ⟨w3, hw3⟩ : ∃ W, w2.alloc (.cells ((madeCells #[.int .u8 0] 64).setIfInBounds 0 (.int .u8 x.toNat)) 5) = W := ⟨_, rfl⟩
  rw [hw3]
  have hx3 : Ext (fun _ => False) w2 w3 := hw3 ▸ (Ext.refl _ w2).alloc _
  have hsz3 : w3.heap.size = w2.heap.size + 1 := by rw [← hw3]; simp
  have hb3 : w3.heap[w2.heap.size]? = some (.cells ((madeCells #[.int .u8 0] 64).setIfInBounds 0 (.int .u8 x.toNat)) 5) := hw3 ▸ heap_alloc_new w2 _
  have hcs : ((madeCells #[.int .u8 0] 64).setIfInBounds 0 (.int .u8 x.toNat)).toList = u8s (cb x) := by
    rw [Array.toList_setIfInBounds, madeCells_one]
    rfl
  have hr3 : Rd w3 5 1 (.slice (some ⟨w2.heap.size, 0, none⟩) 64 64) 64 (u8s (cb x)) :=
    ⟨by simp [u8s, cb], by simp [maxLen], 64, .inr ⟨w2.heap.size, 0, rfl, Nat.le_refl _, .inr ⟨_, (0, 0), hb3, by rw [hcs, List.drop_zero]; exact List.take_of_length_le (by simp [u8s, cb])⟩⟩⟩
  have hd3 : DiskAt (fun k => k = w2.heap.size) w3 p g m (DS.new 3 64) := H2.out.2.1.more hx3 (fun k hk => .inr (by omega)) (fun k hk => by omega)
  have hbl2 : Below w.heap.size w w2 := hb1.trans (H2.out.2.2.mono hb1.size)
  have hbl3 : Below w.heap.size w w3 := Ext.in_below hbl2 hx3 (fun _ h => h.elim) (Nat.le_refl _)
  have hge : w.heap.size ≤ p ∧ w.heap.size ≤ g ∧ w.heap.size ≤ m ∧ w.heap.size ≤ w2.heap.size := by have := H2.out.1; have := hb1.size; have := hbl2.size; omega
  -- the first write
  have hwr := write_any hd3 1 hr3
  rw [cst_w] at hwr
  have hwr' : Calls Try.prog 16 #[.pointer (some ⟨p, 0, none⟩), .int .i64 1, .slice (some ⟨w2.heap.size, 0, none⟩) 64 64] w3 fun e w' => e = .returned (.int .i64 0) ∧ w'.cell? ⟨w2.heap.size, 0, none⟩ = some (.int .u8 x.toNat) ∧ w'.frozen? ⟨w2.heap.size, 0, none⟩ = false ∧
      Hid (DiskAt (fun k => k = w2.heap.size) w' p g m (cst x) ∧ w'.heap[w2.heap.size]? = w3.heap[w2.heap.size]? ∧ Below w.heap.size w w') := by
    refine hwr.mono ?_
    rintro e w' ⟨rfl, hd, hx⟩
    have hlt := H2.out.2.1.lt
    have hbb : w'.heap[w2.heap.size]? = w3.heap[w2.heap.size]? := hx.block _ (by omega) (by omega)
    refine ⟨rfl, ?_, ?_, hd, hbb, Ext.in_below hbl3 hx (by omega) (Nat.le_refl _)⟩
    · rw [cell_of_block (hbb.trans hb3), ← Array.getElem?_toList, hcs]
      rfl
    · exact free_of_block (hbb.trans hb3) _
  have HWR := Lib.hid hwr'
  clear hwr hwr' hw3
  refine HWR.out.mono ?_
  rintro e w4 ⟨rfl, c4, f4, H4⟩
  go_wp2_with fail
  -- the buffer is turned: the disk's sector is not
  have hb4 := H4.out.2.1.trans hb3
  have hb5 := heap_setCell_at hb4 (i := 0) (.int .u8 ((x.toNat + 1) % 256))
  have hx5 : Ext (fun k => k = w2.heap.size) w4 (w4.setCell ⟨w2.heap.size, 0, none⟩ (.int .u8 ((x.toNat + 1) % 256))) := (Ext.refl (fun k => k = w2.heap.size) w4).setCell (fun _ => rfl) _
  have hd5 := H4.out.1.wrote hx5 (fun _ h => h)
  have hbl5 : Below w.heap.size w (w4.setCell ⟨w2.heap.size, 0, none⟩ (.int .u8 ((x.toNat + 1) % 256))) := Ext.in_below H4.out.2.2 hx5 (by omega) (Nat.le_refl _)
  have hcs5 : (((madeCells #[.int .u8 0] 64).setIfInBounds 0 (.int .u8 x.toNat)).setIfInBounds 0 (.int .u8 (((x.toNat : Int) + 1) % 256))).toList = u8s (cb (x + 1)) := by
    rw [cb_add, Array.toList_setIfInBounds, hcs]
    rfl
  have hr5 : Rd (w4.setCell ⟨w2.heap.size, 0, none⟩ (.int .u8 ((x.toNat + 1) % 256))) 5 1 (.slice (some ⟨w2.heap.size, 0, none⟩) 64 64) 64 (u8s (cb (x + 1))) :=
    ⟨by simp [u8s, cb], by simp [maxLen], 64, .inr ⟨w2.heap.size, 0, rfl, Nat.le_refl _, .inr ⟨_, (0, 0), hb5, by rw [hcs5, List.drop_zero]; exact List.take_of_length_le (by simp [u8s, cb])⟩⟩⟩
  generalize (w4.setCell ⟨w2.heap.size, 0, none⟩ (.int .u8 ((x.toNat + 1) % 256))) = w5 at *
  have hrd : Calls Try.prog 17 #[.pointer (some ⟨p, 0, none⟩), .int .i64 1] w5 fun e w' => ∃ yb yc : Nat, e = .returned (.tuple #[.slice (some ⟨yb, 0, none⟩) 64 yc, .int .i64 0]) ∧ w'.cell? ⟨yb, 0, none⟩ = some (.int .u8 x.toNat) ∧ w'.frozen? ⟨yb, 0, none⟩ = false ∧
      Hid (w2.heap.size < yb ∧ yb < w'.heap.size ∧ DiskAt (fun k => k = w2.heap.size ∨ k = yb) w' p g m (cst x) ∧ Rd w' 5 1 (.slice (some ⟨w2.heap.size, 0, none⟩) 64 64) 64 (u8s (cb (x + 1))) ∧ Below w.heap.size w w') := by
    refine (read_any hd5 1).mono ?_
    rintro e w' ⟨v, rfl, ho, hb⟩
    rw [cst_read] at ho
    have hxx : Ext (fun _ => False) w5 w' := Ext.of_below hb (Nat.le_refl _)
    obtain ⟨hl, ⟨rfl, h0⟩ | ⟨yb, yc, cur, rfl, hyb, hyh, _, _, _, hcur⟩⟩ := ho
    · simp [cb] at h0
    · have h64 : (cb x).length = 64 := by simp [cb]
      rw [h64] at hcur ⊢
      refine ⟨yb, yc, rfl, ?_, free_of_block hyh _, Nat.lt_of_lt_of_le (lt_of_heap hb5) hyb, lt_of_heap hyh, hd5.more hxx (fun k hk => by omega) (fun k hk => ?_), hr5.kept (hxx.keepT (fun _ _ _ _ => id)), Ext.in_below hbl5 hxx (fun _ h => h.elim) (Nat.le_refl _)⟩
      · rw [cell_of_block hyh, ← Array.getElem?_toList, ← List.getElem?_take_of_lt (j := 64 * 1) (by omega), hcur]
        rfl
      · rcases hk with rfl | rfl
        · have := lt_of_heap hb5
          have := hb.size
          omega
        · exact lt_of_heap hyh
  have HRD := Lib.hid hrd
  clear hrd hd5 hr5 hbl5 hb4 hb5 hx5 hcs hcs5 hbl3 hr3 hd3 hb3
  refine HRD.out.mono ?_
  rintro e w6 ⟨yb, yc, rfl, c6, f6, H6⟩
  go_wp2_with (go_at_call 19; refine (HP'.out _).mono ?_; rintro e w' ⟨rfl, rfl⟩)
  -- what was handed out is turned, too
  have hx7 : Ext (fun k => k = w2.heap.size ∨ k = yb) w6 (w6.setCell ⟨yb, 0, none⟩ (.int .u8 ((x.toNat + 1) % 256))) := (Ext.refl (fun k => k = w2.heap.size ∨ k = yb) w6).setCell (fun _ => .inr rfl) _
  have hd7 := H6.out.2.2.1.wrote hx7 (fun _ h => h)
  have hbl7 : Below w.heap.size w (w6.setCell ⟨yb, 0, none⟩ (.int .u8 ((x.toNat + 1) % 256))) := Ext.in_below H6.out.2.2.2.2 hx7 (fun k hk => by have := H6.out.1; have := hge.2.2.2; omega) (Nat.le_refl _)
  have hr7 : Rd (w6.setCell ⟨yb, 0, none⟩ (.int .u8 ((x.toNat + 1) % 256))) 5 1 (.slice (some ⟨w2.heap.size, 0, none⟩) 64 64) 64 (u8s (cb (x + 1))) := by
    refine H6.out.2.2.2.1.keptAt (Or.inl rfl) (fun cur fr hq => ?_)
    rw [heap_setCell_ne (by have := H6.out.1; simp only; omega)]
    exact hq
  generalize (w6.setCell ⟨yb, 0, none⟩ (.int .u8 ((x.toNat + 1) % 256))) = w7 at *
  have hcu := cut_any hd7 (cut % 2) (by omega)
  have HCU : Calls Try.prog 18 #[.pointer (some ⟨p, 0, none⟩), .int .i64 (cut % 2)] w7 fun e w' => e = .returned (.tuple #[]) ∧
      Hid (DiskAt (fun k => k = w2.heap.size ∨ k = yb) w' p g m ((cst x).cutAt (cut % 2)) ∧ Rd w' 5 1 (.slice (some ⟨w2.heap.size, 0, none⟩) 64 64) 64 (u8s (cb (x + 1))) ∧ Below w.heap.size w w') := by
    refine hcu.mono ?_
    rintro e w' ⟨rfl, hd, hx⟩
    exact ⟨rfl, hd, hr7.kept (hd7.keep5 hx (fun k h => .inl h)), Ext.in_below hbl7 hx (by omega) (Nat.le_refl _)⟩
  have HCU' := Lib.hid HCU
  clear hcu HCU hd7 hbl7 hr7 hx7
  refine HCU'.out.mono ?_
  rintro e w8 ⟨rfl, H8⟩
  have hcp : Calls Try.prog 20 #[.pointer (some ⟨p, 0, none⟩)] w8 fun e w' => ∃ p' g' m' : Nat, e = .returned (.pointer (some ⟨p', 0, none⟩)) ∧
      Hid ((w8.heap.size ≤ p' ∧ w8.heap.size ≤ g' ∧ w8.heap.size ≤ m') ∧ (p < w8.heap.size ∧ g < w8.heap.size ∧ m < w8.heap.size) ∧ DiskAt (fun k => k = w2.heap.size ∨ k = yb) w' p' g' m' ((cst x).cutAt (cut % 2)) ∧ DiskAt (fun k => k = w2.heap.size ∨ k = yb) w' p g m ((cst x).cutAt (cut % 2)) ∧
        Rd w' 5 1 (.slice (some ⟨w2.heap.size, 0, none⟩) 64 64) 64 (u8s (cb (x + 1))) ∧ Below w.heap.size w w') := by
    refine (copy_any H8.out.1).mono ?_
    rintro e w' ⟨p', g', m', rfl, h1, h2, h3, hd, hb⟩
    have hxx : Ext (fun _ => False) w8 w' := Ext.of_below hb (Nat.le_refl _)
    have hkk := hxx.keepT (e := 5) (fun _ _ _ _ => id)
    exact ⟨p', g', m', rfl, ⟨h1, h2, h3⟩, H8.out.1.lt, hd, H8.out.1.past hxx id id id hkk, H8.out.2.1.kept hkk, Ext.in_below H8.out.2.2 hxx (fun _ h => h.elim) (Nat.le_refl _)⟩
  have HCP := Lib.hid hcp
  clear hcp
  go_wp2_with (go_at_call 20; refine HCP.out.mono ?_; rintro e w9 ⟨p', g', m', rfl, H9⟩)
  have hw : Calls Try.prog 16 #[.pointer (some ⟨p, 0, none⟩), .int .i64 2, .slice (some ⟨w2.heap.size, 0, none⟩) 64 64] w9 fun e w' => e = .returned (.int .i64 (((cst x).cutAt (cut % 2)).write 2 (cb (x + 1))).2) ∧
      Hid (DiskAt (fun k => k = w2.heap.size ∨ k = yb) w' p' g' m' ((cst x).cutAt (cut % 2)) ∧ DiskAt (fun k => k = w2.heap.size ∨ k = yb) w' p g m (((cst x).cutAt (cut % 2)).write 2 (cb (x + 1))).1 ∧
        Rd w' 5 1 (.slice (some ⟨w2.heap.size, 0, none⟩) 64 64) 64 (u8s (cb (x + 1))) ∧ Below w.heap.size w w') := by
    refine (write_any H9.out.2.2.2.1 2 H9.out.2.2.2.2.1).mono ?_
    rintro e w' ⟨rfl, hd, hx⟩
    have hkk := H9.out.2.2.2.1.keep5 hx (fun k h => h.imp id .inr)
    have h1 := H9.out.1
    have h2 := H9.out.2.1
    exact ⟨rfl, H9.out.2.2.1.past hx (by omega) (by omega) (by omega) hkk, hd, H9.out.2.2.2.2.1.kept hkk, Ext.in_below H9.out.2.2.2.2.2 hx (by omega) (Nat.le_refl _)⟩
  have HW := Lib.hid hw
  clear hw
  refine HW.out.mono ?_
  rintro e w10 ⟨rfl, H10⟩
  go_wp2_with fail
  have hgp : w.heap.size ≤ p' ∧ w.heap.size ≤ g' ∧ w.heap.size ≤ m' := by have := H9.out.1; have := H8.out.2.2.size; omega
  have hw : Calls Try.prog 16 #[.pointer (some ⟨p', 0, none⟩), .int .i64 0, .slice (some ⟨w2.heap.size, 0, none⟩) 64 64] w10 fun e w' => e = .returned (.int .i64 (((cst x).cutAt (cut % 2)).write 0 (cb (x + 1))).2) ∧
      Hid (DiskAt (fun k => k = w2.heap.size ∨ k = yb) w' p' g' m' (((cst x).cutAt (cut % 2)).write 0 (cb (x + 1))).1 ∧ DiskAt (fun k => k = w2.heap.size ∨ k = yb) w' p g m (((cst x).cutAt (cut % 2)).write 2 (cb (x + 1))).1 ∧ Below w.heap.size w w') := by
    refine (write_any H10.out.1 0 H10.out.2.2.1).mono ?_
    rintro e w' ⟨rfl, hd, hx⟩
    have hkk := H10.out.1.keep5 hx (fun k h => h.imp id .inr)
    have h1 := H9.out.1
    have h2 := H9.out.2.1
    exact ⟨rfl, hd, H10.out.2.1.past hx (by omega) (by omega) (by omega) hkk, Ext.in_below H10.out.2.2.2 hx (by omega) (Nat.le_refl _)⟩
  have HW2 := Lib.hid hw
  clear hw
  refine HW2.out.mono ?_
  rintro e w11 ⟨rfl, H11⟩
  clear HW HW2 HCP HCU' HRD HWR
  rcases places cut with hc | hc
  · simp only [hc] at HP' H11 ⊢
    obtain ⟨q1, q2, q3, q4⟩ := cst_cut0 x (x + 1)
    simp only [q1, q2]
    have hrd := read_any H11.out.1 1
    rw [q3, q4] at hrd
    have HRD : Calls Try.prog 17 #[.pointer (some ⟨p', 0, none⟩), .int .i64 1] w11 fun e w' => ∃ v, e = .returned (.tuple #[v, .int .i64 32]) ∧ Hid (Below w.heap.size w w') := by
      refine hrd.mono ?_
      rintro e w' ⟨v, rfl, _, hb⟩
      exact ⟨v, rfl, H11.out.2.2.trans (hb.mono H11.out.2.2.size)⟩
    have HRD' := Lib.hid HRD
    clear HRD hrd q1 q2 q3 q4
    go_wp2_with fail
    refine HRD'.out.mono ?_
    rintro e w12 ⟨v, rfl, H12⟩
    go_wp2_with (go_at_call 19; refine (HP'.out _).mono ?_; rintro e w' ⟨rfl, rfl⟩)
    go_ret
    exact ⟨rfl, H12.out⟩
  · simp only [hc] at HP' H11 ⊢
    obtain ⟨q1, q2, q3, q4, q5, q6⟩ := cst_cut1 x (x + 1)
    simp only [q1, q2]
    have hr1 := read_at H11.out.1 1 q3 q4 (n := 64) (by simp [cb]) (by omega)
    have HR1 := Lib.hid hr1
    have hd11 := Lib.hid q5
    have hd12 := Lib.hid q6
    clear hr1 q1 q2 q3 q4 q5 q6
    go_wp2_with fail
    refine HR1.out.mono ?_
    rintro e w12 ⟨bz, oz, cz, rfl, H12⟩
    go_wp2_with (go_at_call 19; refine (HP'.out _).mono ?_; rintro e w' ⟨rfl, rfl⟩)
    have hk12 : Ext (fun _ => False) w11 w12 := Ext.of_below H12.out.2.2.2 (Nat.le_refl _)
    have hd := H11.out.2.1.past hk12 id id id (hk12.keepT (fun _ _ _ _ => id))
    have hr2 := read_at hd 0 hd11.out hd12.out (n := 64) (by simp) (by omega)
    have HR2 := Lib.hid hr2
    clear hr2 hd hk12 hd11 hd12
    refine HR2.out.mono ?_
    rintro e w13 ⟨bu, ou, cu, rfl, H13⟩
    go_wp2_with fail
    have hS0 : w13.drew.cell? ⟨bz, oz, none⟩ = some (.int .u8 x.toNat) ∧ (Go.convert 33 9 (.slice (some ⟨bu, ou, none⟩) 64 cu)).run Try.prog w13.drew = .ok (.string ⟨(List.replicate 64 (0 : UInt8)).toArray⟩) w13.drew := by
      refine ⟨?_, Rd.str (H13.out.2.1.kept (fun _ _ _ h => h))⟩
      have h1 := (H12.out.2.1.kept (w1 := w13) (fun b cur fr hq => (H13.out.2.2.2.block b (lt_of_heap hq)).trans hq)).news 0 (.int .u8 x.toNat) rfl
      exact h1
    have HF : Hid (Below w.heap.size w (w13.drew.alloc (.cells (madeCells #[.int .u8 0] 64) 5))) := by
      have q12 := H11.out.2.2.trans (H12.out.2.2.2.mono H11.out.2.2.size)
      have q13 := q12.trans (H13.out.2.2.2.mono q12.size)
      exact q13.drew.alloc q13.size _
    refine region_X (fun W => W.cell? ⟨bz, oz, none⟩ = some (.int .u8 x.toNat) ∧ (Go.convert 33 9 (.slice (some ⟨bu, ou, none⟩) 64 cu)).run Try.prog W = .ok (.string ⟨(List.replicate 64 (0 : UInt8)).toArray⟩) W) (by kernel_rfl) ?_
    simp only [List.length_cons, List.length_nil, Nat.reduceAdd]
    refine AnyX.take 0 rfl (by kernel_rfl) (fun _ _ _ h => h) hS0 rfl (by rintro W ⟨s0, s1⟩; go_simp; rfl) ?_; simp only [Act.put, List.setIfInBounds_toArray, List.set_cons_succ, List.set_cons_zero]
    refine AnyX.take 1 rfl (by kernel_rfl) (fun _ _ _ h => h) hS0 rfl (by rintro W ⟨s0, s1⟩; go_simp; rfl) ?_; simp only [Act.put, List.setIfInBounds_toArray, List.set_cons_succ, List.set_cons_zero]
    refine AnyX.take 2 rfl (by kernel_rfl) (fun _ _ _ h => h) hS0 rfl (by rintro W ⟨s0, s1⟩; go_simp; rfl) ?_; simp only [Act.put, List.setIfInBounds_toArray, List.set_cons_succ, List.set_cons_zero]
    refine AnyX.take 3 rfl (by kernel_rfl) (fun _ _ _ h => h) hS0 rfl (by rintro W ⟨s0, s1⟩; go_simp; rfl) ?_; simp only [Act.put, List.setIfInBounds_toArray, List.set_cons_succ, List.set_cons_zero]
    refine AnyX.take 4 rfl (by kernel_rfl) (fun _ _ _ h => h) hS0 rfl (by rintro W ⟨s0, s1⟩; go_simp; rfl) ?_; simp only [Act.put, List.setIfInBounds_toArray, List.set_cons_succ, List.set_cons_zero]
    refine AnyX.take 5 rfl (by kernel_rfl) (fun _ _ _ h => h) hS0 rfl (by rintro W ⟨s0, s1⟩; go_simp; rfl) ?_; simp only [Act.put, List.setIfInBounds_toArray, List.set_cons_succ, List.set_cons_zero]
    refine AnyX.take 6 rfl (by kernel_rfl) (fun _ _ _ h => h) hS0 rfl (by rintro W ⟨s0, s1⟩; go_simp; rfl) ?_; simp only [Act.put, List.setIfInBounds_toArray, List.set_cons_succ, List.set_cons_zero]
    refine AnyX.take 7 rfl (by kernel_rfl) (fun _ _ _ h => h) hS0 rfl (by rintro W ⟨s0, s1⟩; go_simp; rfl) ?_; simp only [Act.put, List.setIfInBounds_toArray, List.set_cons_succ, List.set_cons_zero]
    refine AnyX.take 8 rfl (by kernel_rfl) (fun _ _ _ h => h) hS0 rfl (by rintro W ⟨s0, s1⟩; go_simp; rfl) ?_; simp only [Act.put, List.setIfInBounds_toArray, List.set_cons_succ, List.set_cons_zero]
    refine AnyX.takeW 9 rfl (by kernel_rfl) (fun _ _ _ h => h) hS0 rfl (by rintro W ⟨s0, s1⟩; go_simp; rfl) ?_; simp only [Act.put, List.setIfInBounds_toArray, List.set_cons_succ, List.set_cons_zero]
    refine AnyX.takeW 10 rfl (by kernel_rfl) (fun _ _ _ h => h) hS0 rfl (by rintro W ⟨s0, s1⟩; go_simp; rfl) ?_; simp only [Act.put, List.setIfInBounds_toArray, List.set_cons_succ, List.set_cons_zero]
    refine AnyX.takeW 11 rfl (by kernel_rfl) (fun _ _ _ h => h) hS0 rfl (by rintro W ⟨s0, s1⟩; go_simp; rfl) ?_; simp only [Act.put, List.setIfInBounds_toArray, List.set_cons_succ, List.set_cons_zero]
    refine AnyX.take 12 rfl (by kernel_rfl) (fun _ _ _ h => h) hS0 rfl (by rintro W ⟨s0, s1⟩; go_simp; rfl) ?_; simp only [Act.put, List.setIfInBounds_toArray, List.set_cons_succ, List.set_cons_zero]
    refine AnyX.take 13 rfl (by kernel_rfl) (fun _ _ _ h => h) hS0 rfl (by rintro W ⟨s0, s1⟩; go_simp; rfl) ?_; simp only [Act.put, List.setIfInBounds_toArray, List.set_cons_succ, List.set_cons_zero]
    refine AnyX.takeW 14 rfl (by kernel_rfl) (fun _ _ _ h => h) hS0 rfl (by rintro W ⟨s0, s1⟩; go_simp; rfl) ?_; simp only [Act.put, List.setIfInBounds_toArray, List.set_cons_succ, List.set_cons_zero]
    refine AnyX.takeW 15 rfl (by kernel_rfl) (fun _ _ _ h => h) hS0 rfl (by rintro W ⟨s0, s1⟩; go_simp; rfl) ?_; simp only [Act.put, List.setIfInBounds_toArray, List.set_cons_succ, List.set_cons_zero]
    refine AnyX.takeW 16 rfl (by kernel_rfl) (fun _ _ _ h => h) hS0 rfl (by rintro W ⟨s0, s1⟩; go_simp; rfl) ?_; simp only [Act.put, List.setIfInBounds_toArray, List.set_cons_succ, List.set_cons_zero]
    refine AnyX.takeW 17 rfl (by kernel_rfl) (fun _ _ _ h => h) hS0 rfl (by rintro W ⟨s0, s1⟩; go_simp; rfl) ?_; simp only [Act.put, List.setIfInBounds_toArray, List.set_cons_succ, List.set_cons_zero]
    refine AnyX.takeW 18 rfl (by kernel_rfl) (fun _ _ _ h => h) hS0 rfl (by rintro W ⟨s0, s1⟩; go_simp; rfl) ?_; simp only [Act.put, List.setIfInBounds_toArray, List.set_cons_succ, List.set_cons_zero]
    refine AnyX.take 19 rfl (by kernel_rfl) (fun _ _ _ h => h) hS0 rfl (by rintro W ⟨s0, s1⟩; go_simp; rfl) ?_; simp only [Act.put, List.setIfInBounds_toArray, List.set_cons_succ, List.set_cons_zero]
    refine AnyX.take 20 rfl (by kernel_rfl) (fun _ _ _ h => h) hS0 rfl (by rintro W ⟨s0, s1⟩; go_simp; rfl) ?_; simp only [Act.put, List.setIfInBounds_toArray, List.set_cons_succ, List.set_cons_zero]
    refine AnyX.takeW 21 rfl (by kernel_rfl) (fun _ _ _ h => h) hS0 rfl (by rintro W ⟨s0, s1⟩; go_simp; rfl) ?_; simp only [Act.put, List.setIfInBounds_toArray, List.set_cons_succ, List.set_cons_zero]
    refine AnyX.takeW 22 rfl (by kernel_rfl) (fun _ _ _ h => h) hS0 rfl (by rintro W ⟨s0, s1⟩; go_simp; rfl) ?_; simp only [Act.put, List.setIfInBounds_toArray, List.set_cons_succ, List.set_cons_zero]
    refine AnyX.actW 23 rfl (by kernel_rfl) rfl (fun K hK => ?_)   -- Op.makeSlice 33 (const (Value.int IntKind.i64 64)) (const (Value.int IntKind.i64 64))
    go_wp2
    have hS1 : (w13.drew.alloc (.cells (madeCells #[.int .u8 0] 64) 5)).cell? ⟨bz, oz, none⟩ = some (.int .u8 x.toNat) ∧ (Go.convert 33 9 (.slice (some ⟨bu, ou, none⟩) 64 cu)).run Try.prog (w13.drew.alloc (.cells (madeCells #[.int .u8 0] 64) 5)) = .ok (.string ⟨(List.replicate 64 (0 : UInt8)).toArray⟩) (w13.drew.alloc (.cells (madeCells #[.int .u8 0] 64) 5)) := by
      have hxa : Ext (fun _ => False) w13 (w13.drew.alloc (.cells (madeCells #[.int .u8 0] 64) 5)) := ((Ext.refl _ w13).drew).alloc _
      refine ⟨?_, Rd.str (H13.out.2.1.kept (hxa.keepT (fun _ _ _ _ => id)))⟩
      have h1 := ((H12.out.2.1.kept (w1 := w13) (fun b cur fr hq => (H13.out.2.2.2.block b (lt_of_heap hq)).trans hq)).kept (hxa.keepT (fun _ _ _ _ => id))).news 0 (.int .u8 x.toNat) rfl
      exact h1
    refine hK _ _ hS1 ?_
    clear hK K
    have hcv : (Go.convert 33 9 (.slice (some ⟨w13.heap.size, 0, none⟩) 64 64)).run Try.prog (w13.drew.alloc (.cells (madeCells #[.int .u8 0] 64) 5)) = .ok (.string ⟨(List.replicate 64 (0 : UInt8)).toArray⟩) (w13.drew.alloc (.cells (madeCells #[.int .u8 0] 64) 5)) := by
      refine Rd.str ⟨by simp [u8s], by simp [maxLen], 64, .inr ⟨w13.heap.size, 0, rfl, Nat.le_refl _, .inr ⟨_, (0, 0), heap_alloc_new w13.drew _, ?_⟩⟩⟩
      rw [madeCells_one, u8s_replicate, List.drop_zero]
      exact List.take_of_length_le (by simp)
    have hcv' : (Go.convert 33 9 (.slice (some ⟨w13.heap.size, 0, none⟩) 64 64)).run Try.prog (w13.alloc (.cells (madeCells #[.int .u8 0] 64) 5)).drew = .ok (.string ⟨(List.replicate 64 (0 : UInt8)).toArray⟩) (w13.alloc (.cells (madeCells #[.int .u8 0] 64) 5)).drew := hcv
    clear hcv
    refine AnyX.actW 24 rfl (by kernel_rfl) rfl (fun K hK => ?_)
    go_wp2
    refine hK _ _ hS1 ?_
    clear hK K
    refine AnyX.takeW 25 rfl (by kernel_rfl) (fun _ _ _ h => h) hS1 rfl (by rintro W ⟨s0, s1⟩; go_simp; rfl) ?_; simp only [Act.put, List.setIfInBounds_toArray, List.set_cons_succ, List.set_cons_zero]
    refine AnyX.take 26 rfl (by kernel_rfl) (fun _ _ _ h => h) hS1 rfl (by rintro W ⟨s0, s1⟩; go_simp; rfl) ?_; simp only [Act.put, List.setIfInBounds_toArray, List.set_cons_succ, List.set_cons_zero]
    refine AnyX.end_ 27 rfl (by kernel_rfl) (by kernel_rfl) (by kernel_rfl) rfl ?_   -- Op.assign (tmp 114)
    go_wp2
    go_ret
    exact ⟨rfl, HF.out⟩
theorem copies_law (a0 a1 : Int) (w0 : (Lit.int .u8 a0).wf = true) (w : World) : Calls Try.prog 4 #[.int .u8 a0, .int .i64 a1] w fun e w' => e = .returned (.bool true) ∧ Below w.heap.size w w' := by
  have h : 0 ≤ a0 ∧ a0 ≤ 255 := by
    simp only [Lit.wf, Bool.and_eq_true, decide_eq_true_eq] at w0
    exact w0
  have e : ((UInt8.ofNat a0.toNat).toNat : Int) = a0 := by
    rw [UInt8.toNat_ofNat']
    omega
  have := copies_any (UInt8.ofNat a0.toNat) a1 w
  rw [e] at this
  exact this
end Go.Proofs.Ytekolejeliefdaa
