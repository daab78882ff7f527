/- Bytes that are read: numbers, texts, truths, where they are as they were written. -/
import Derived.Test.YtekolejeliefdaaGreatStB
set_option linter.unusedVariables false
set_option linter.unusedSimpArgs false
namespace Go.Proofs.YtekolejeliefdaaGreat
open Go.RowKit

/-- A reader in a block that has not failed: the bytes that are left. -/
structure RAt (w : World) (p : Nat) (bs : List UInt8) : Prop where
  lay : ∃ v, w.heap[p]? = some (.cells #[v, .bool false] 210 (0, 0)) ∧ Rd w 5 1 v bs.length (u8s bs)

theorem must_any (w : World) : Calls Tryz.prog 156 #[.bool true] w fun e w' => e = .returned (.tuple #[]) ∧ w' = w := by
  go_enter Tryz.func156, Tryz.ntmps156
  go_wp2
  go_end0
  exact ⟨rfl, rfl⟩

theorem RAt.keep {w w1 : World} {p : Nat} {bs : List UInt8} (h : RAt w p bs) (hx : Ext (fun _ => False) w w1) : RAt w1 p bs := by
  obtain ⟨v, h1, h2⟩ := h.lay
  exact ⟨v, (hx.block p (lt_of_heap h1) id).trans h1, h2.kept fun b cur fr hb => (hx.block b (lt_of_heap hb) id).trans hb⟩

/-- What a step that drops n bytes leaves. -/
theorem RAt.step {w : World} {p n : Nat} {bs : List UInt8} (h : RAt w p bs) (hn : n ≤ bs.length) :
    ∃ a c, w.cell? ⟨p, 0, none⟩ = some (.slice a bs.length c) ∧ w.frozen? ⟨p, 0, none⟩ = false ∧ (0 < bs.length → ∃ b off, a = some ⟨b, off, none⟩ ∧ ∀ (j : Nat) (x : UInt8), bs[j]? = some x → w.cell? ⟨b, off + j, none⟩ = some (.int .u8 x.toNat)) ∧
      Hid (Rd w 5 1 (.slice a bs.length c) bs.length (u8s bs)) ∧
      ∃ ua m uc, (∀ W, (Instr.slice 114 (.slice a bs.length c) (some (.int .i64 n)) none none).run Tryz.prog W = .ok (.slice ua m uc) W) ∧
        Hid (RAt (w.setCell ⟨p, 0, none⟩ (.slice ua m uc)) p (bs.drop n) ∧ Ext (· = p) w (w.setCell ⟨p, 0, none⟩ (.slice ua m uc))) := by
  obtain ⟨v, h1, h2⟩ := h.lay
  obtain ⟨a, c, rfl⟩ := h2.form
  have c0 := cell_of_block h1 0
  simp at c0
  obtain ⟨u, hu, hr, h1c⟩ := h2.cut_l (P := Tryz.prog) Tryz.underlying114 Tryz.sizeOf5 n hn
  obtain ⟨ua, uc, rfl⟩ := hr.form
  refine ⟨a, c, c0, free_of_block h1 0, fun h0 => h2.bytes h0, h2, ua, _, uc, hu, ⟨⟨_, heap_setCell_at h1 _, ?_⟩⟩, Ext.setCell (S := (· = p)) (Ext.refl _ w) (fun _ => rfl) _⟩
  have h3 : Rd w 5 1 (.slice ua (bs.length - n) uc) (bs.drop n).length (u8s (bs.drop n)) := by simpa [u8s, List.map_drop] using hr
  refine h3.kept fun b cur fr hb => ?_
  rw [heap_setCell_ne (by rintro rfl; simp [h1] at hb)]
  exact hb

set_option maxRecDepth 100000 in
set_option maxHeartbeats 1000000 in
theorem rbool_any {w : World} {p : Nat} {x : Bool} {rest : List UInt8} (h : RAt w p (boolF x ++ rest)) :
    Calls Tryz.prog 136 #[.pointer (some ⟨p, 0, none⟩)] w fun e w' => e = .returned (.bool x) ∧ RAt w' p rest ∧ Ext (· = p) w w' := by
  obtain ⟨a, c, hcell, hfz, hby, hrd, ua, um, uc, hu, HR⟩ := h.step (n := 1) (by simp [boolF])
  obtain ⟨b, off, rfl, hc⟩ := hby (by simp [boolF])
  obtain ⟨n, hn⟩ : ∃ n, (boolF x ++ rest).length = n := ⟨_, rfl⟩
  have hn0 : 0 < n := by rw [← hn]; simp [boolF]
  have hn1 : n ≤ 9223372036854775807 := by have := hrd.out.2.1; simp only [maxLen] at this; omega
  have hc0 := hc 0 (if x then 1 else 0) (by simp [boolF])
  rw [hn] at hcell hu hrd
  simp only [Int.natCast_one, Nat.add_zero] at hu hc0
  clear hc hby h
  have HM := Lib.hid (must_any w)
  cases x
  · go_enter Tryz.func136, Tryz.ntmps136
    go_wp2_with (refine HM.out.mono ?_; rintro e w' ⟨rfl, rfl⟩)
    go_ret
    exact ⟨rfl, HR.out⟩
  · go_enter Tryz.func136, Tryz.ntmps136
    go_wp2_with (refine HM.out.mono ?_; rintro e w' ⟨rfl, rfl⟩)
    go_ret
    exact ⟨rfl, HR.out⟩


theorem and128 : ∀ n : Fin 256, bits .and .u8 (n.val : Int) 128 = if n.val < 128 then 0 else 128 := by decide +kernel
theorem andNot128 : ∀ n : Fin 256, bits .andNot .u8 (n.val : Int) 128 = ((n.val % 128 : Nat) : Int) := by decide +kernel

/-- What of a number is read behind i bytes. -/
structure NSt (x i acc y : Nat) : Prop where
  le : i ≤ 9
  low : acc < 2 ^ (7 * i)
  sum : x = acc + y * 2 ^ (7 * i)
  pos : 0 < i → y ≠ 0

theorem or_acc {acc m i : Nat} (h : acc < 2 ^ (7 * i)) (hm : acc + m * 2 ^ (7 * i) < 18446744073709551616) :
    bits .or .u64 (acc : Int) (IntKind.u64.wrap ((m : Int) * 2 ^ (7 * i))) = ((acc + m * 2 ^ (7 * i) : Nat) : Int) := by
  have e1 : ((m : Int) * 2 ^ (7 * i)) = ((m * 2 ^ (7 * i) : Nat) : Int) := by simp
  rw [e1, IntKind.wrap_u64, Int.emod_eq_of_lt (by omega) (by omega)]
  rw [bits_join_low .u64 64 (by decide) wraps_u64 (7 * i) acc ((m * 2 ^ (7 * i) : Nat) : Int) (by omega) (by exact_mod_cast h) (by omega) (by omega) (by
    have : m * 2 ^ (7 * i) % 2 ^ (7 * i) = 0 := Nat.mul_mod_left _ _
    exact_mod_cast this) (by omega)]
  simp
theorem NSt.last {x i acc y : Nat} (h : NSt x i acc y) (hx : x < 18446744073709551616) : y ≤ 1 ∨ i < 9 := by
  by_cases h9 : i < 9
  · exact .inr h9
  · obtain rfl : i = 9 := by have := h.le; omega
    have := h.sum
    simp at this
    omega
theorem NSt.next {x i acc y : Nat} (h : NSt x i acc y) (hx : x < 18446744073709551616) (hy : ¬ y < 128) : acc + y % 128 * 2 ^ (7 * i) < 18446744073709551616 ∧ NSt x (i + 1) (acc + y % 128 * 2 ^ (7 * i)) (y / 128) := by
  have h9 : i < 9 := by have := h.last hx; omega
  have e1 : y = y / 128 * 128 + y % 128 := by omega
  have e2 : 2 ^ (7 * (i + 1)) = 128 * 2 ^ (7 * i) := by rw [Nat.mul_add, Nat.pow_add]; simp [Nat.mul_comm]
  have hs := h.sum
  have hl := h.low
  have e3 : y * 2 ^ (7 * i) = y / 128 * (128 * 2 ^ (7 * i)) + y % 128 * 2 ^ (7 * i) := by
    rw [← Nat.mul_assoc, ← Nat.add_mul, ← e1]
  refine ⟨by omega, by omega, ?_, ?_, fun _ => by omega⟩
  · rw [e2]
    have : y % 128 * 2 ^ (7 * i) ≤ 127 * 2 ^ (7 * i) := Nat.mul_le_mul_right _ (by omega)
    omega
  · rw [e2]
    omega

set_option maxRecDepth 100000 in
set_option maxHeartbeats 1000000 in
theorem rnum_any {w : World} {p x : Nat} {rest : List UInt8} (h : RAt w p (numF x ++ rest)) (hx : x < 18446744073709551616) :
    Calls Tryz.prog 157 #[.pointer (some ⟨p, 0, none⟩)] w fun e w' => e = .returned (.int .u64 x) ∧ RAt w' p rest ∧ Ext (· = p) w w' := by
  have H := Lib.hid h
  clear h
  go_enter Tryz.func157, Tryz.ntmps157
  go_wp2
  go_loopw [3, 4, 5] (fun nv iv _ wr => ∃ i acc : Nat, i ≤ 9 ∧ iv = .int .i64 i ∧ nv = .int .u64 acc ∧ Hid (∃ y, NSt x i acc y ∧ RAt wr p (numF y ++ rest) ∧ Ext (· = p) w wr)) (fun _ iv _ _ => 10 - (intOf iv).toNat)
  case atStart => exact ⟨0, 0, by omega, rfl, rfl, x, ⟨by omega, by simp, by simp, by omega⟩, H.out, Ext.refl _ _⟩
  case round =>
    obtain ⟨i, acc, hi9, rfl, rfl, Hr⟩ := hrel
    obtain ⟨y, hy⟩ := Hr.out
    have HY := Lib.hid hy
    obtain ⟨z, tl, hz⟩ : ∃ z tl, numF y = z :: tl ∧ Hid ((y < 128 ∧ z.toNat = y ∧ tl = []) ∨ (¬ y < 128 ∧ z.toNat = y % 128 + 128 ∧ tl = numF (y / 128))) := by
      by_cases h1 : y < 128
      · exact ⟨_, _, numF_small h1, .inl ⟨h1, by simp; omega, rfl⟩⟩
      · exact ⟨_, _, numF_big h1, .inr ⟨h1, by simp; omega, rfl⟩⟩
    obtain ⟨hnum, HZ⟩ := hz
    obtain ⟨a, c, hcell, hfz, hby, hrd, ua, um, uc, hu, HR⟩ := hy.2.1.step (n := 1) (by rw [hnum]; simp)
    obtain ⟨b, off, rfl, hc⟩ := hby (by rw [hnum]; simp)
    obtain ⟨n, hn⟩ : ∃ n, (numF y ++ rest).length = n := ⟨_, rfl⟩
    have hn0 : 0 < n := by rw [← hn, hnum]; simp
    have hn1 : n ≤ 9223372036854775807 := by have := hrd.out.2.1; simp only [maxLen] at this; omega
    have hc0 := hc 0 z (by rw [hnum]; simp)
    rw [hn] at hcell hu hrd
    simp only [Int.natCast_one, Nat.add_zero] at hu hc0
    have hzlt := z.toNat_lt
    obtain ⟨zn, hzn⟩ : ∃ zn, z.toNat = zn := ⟨_, rfl⟩
    rw [hzn] at hc0 hzlt
    have HZN := Lib.hid hzn
    clear hc hby hnum hy Hr hn hzn
    have HM := Lib.hid must_any
    have hlast := HY.out.1.last hx
    have hzi : ¬ zn = 0 ∨ i = 0 := by
      have := HY.out.1.pos
      have := HZN.out
      rcases HZ.out with q | q <;> omega
    by_cases hy1 : y < 128
    · have hzy : zn = y := by
        have := HZN.out
        rcases HZ.out with q | q <;> omega
      subst hzy
      have hand : bits .and .u8 (zn : Int) 128 = 0 := by
        have := and128 ⟨zn, hzlt⟩
        simp only [] at this
        rw [this, if_pos hy1]
      have hno := andNot128 ⟨zn, hzlt⟩
      simp only [] at hno
      rw [Nat.mod_eq_of_lt hy1] at hno
      have hend : Hid (∀ w', Hid (RAt w' p (List.drop 1 (numF zn ++ rest)) ∧ Ext (fun x => x = p) wr w') → Ending.returned (Value.int .u64 (bits .or .u64 (acc : Int) (IntKind.u64.wrap ((zn : Int) * 2 ^ (7 * i))))) = .returned (.int .u64 x) ∧ RAt w' p rest ∧ Ext (fun x => x = p) w w') := by
        intro w' h
        have h1 := HY.out.1.sum
        refine ⟨?_, ?_, HY.out.2.2.trans h.out.2⟩
        · rw [or_acc HY.out.1.low (by omega), ← h1]
        · have h2 := h.out.1
          rw [numF_small hy1] at h2
          simpa using h2
      by_cases h9 : i < 9
      · by_cases hz0 : zn = 0
        · subst hz0
          obtain rfl : i = 0 := by omega
          go_wp2_with (refine (HM.out _).mono ?_; rintro e w' ⟨rfl, rfl⟩)
          go_ret
          refine ⟨?_, (hend.out _ HR).2⟩
          rw [← (hend.out _ HR).1]
          rfl
        · go_wp2_with (refine (HM.out _).mono ?_; rintro e w' ⟨rfl, rfl⟩)
          go_ret
          exact hend.out _ HR
      · obtain rfl : i = 9 := by omega
        have hz1 : zn ≤ 1 := by omega
        have hz0 : ¬ zn = 0 := by omega
        have HM2 := Lib.hid (fun W => (show Calls Tryz.prog 156 #[.bool (decide ((zn : Int) ≤ 1))] W fun e w' => e = .returned (.tuple #[]) ∧ w' = W by rw [decide_eq_true (by omega)]; exact HM.out W))
        go_wp2_with (first | (refine (HM.out _).mono ?_; rintro e w' ⟨rfl, rfl⟩) | (refine (HM2.out _).mono ?_; rintro e w' ⟨rfl, rfl⟩))
        go_ret
        have h := (hend.out _ HR).1
        have e1 : (2 : Int) ^ (7 * 9) = 9223372036854775808 := by decide
        rw [e1, IntKind.wrap_u64, Int.emod_eq_of_lt (by omega) (by omega)] at h
        exact ⟨h, (hend.out _ HR).2⟩
    · have hzy : zn = y % 128 + 128 := by
        have := HZN.out
        rcases HZ.out with q | q <;> omega
      have hand : ¬ bits .and .u8 (zn : Int) 128 = 0 := by
        have := and128 ⟨zn, hzlt⟩
        simp only [] at this
        rw [this, if_neg (by omega)]
        omega
      have hno := andNot128 ⟨zn, hzlt⟩
      simp only [] at hno
      have h9 : i < 9 := by omega
      have HZY := Lib.hid hzy
      clear hzy
      go_wp2_with (refine (HM.out _).mono ?_; rintro e w' ⟨rfl, rfl⟩)
      obtain ⟨hn1, hn2⟩ := HY.out.1.next hx hy1
      refine ⟨⟨i + 1, acc + y % 128 * 2 ^ (7 * i), by omega, by go_num, ?_, y / 128, hn2, ?_, HY.out.2.2.trans HR.out.2⟩, by simp [intOf]; omega⟩
      · have e1 : ((zn : Int) % 128) = ((y % 128 : Nat) : Int) := by rw [HZY.out]; omega
        rw [e1, or_acc HY.out.1.low hn1]
      · have h2 := HR.out.1
        rw [numF_big hy1] at h2
        simpa using h2

end Go.Proofs.YtekolejeliefdaaGreat
