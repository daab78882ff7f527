/- Layer 3's law of bounds. -/
import Derived.Test.YtekolejeliefdaaLawD
set_option linter.unusedVariables false
set_option linter.unusedSimpArgs false
namespace Go.Proofs.Ytekolejeliefdaa
open Go.RowKit

theorem new_len (n size : Int) : ((DS.new n size).sure.length : Int) = min (max n 1) 4096 ∧ ((DS.new n size).size : Int) = min (max size 64) 4096 := by
  simp [DS.new]
  omega

theorem bounds_any (n size : Int) (w : World) : Calls Try.prog 3 #[.int .i64 n, .int .i64 size] w fun e w' => e = .returned (.bool true) ∧ Below w.heap.size w w' := by
  obtain ⟨z, hz⟩ : ∃ z : Int, min (if 20 < n ∧ 100 < size then 64 else size) 70000 = z := ⟨_, rfl⟩
  have HK := Lib.hid (known3 w)
  have HN : ∀ w1 z, Calls Try.prog 13 #[.int .i64 n, .int .i64 z] w1 fun e w' => ∃ p : Nat, e = .returned (.pointer (some ⟨p, 0, none⟩)) ∧
      Hid (Below w1.heap.size w1 w' ∧ Calls Try.prog 14 #[.pointer (some ⟨p, 0, none⟩)] w' (fun e w2 => e = .returned (.int .i64 (min (max n 1) 4096)) ∧ w' = w2) ∧
        Calls Try.prog 15 #[.pointer (some ⟨p, 0, none⟩)] w' (fun e w2 => e = .returned (.int .i64 (min (max z 64) 4096)) ∧ w' = w2)) := by
    intro w1 z
    refine (new_any n z w1).mono ?_
    rintro e w' ⟨p, g, m, rfl, h1, h2, h3, h4, h5⟩
    have q1 := sectors_any h4
    have q2 := size_any h4
    rw [(new_len n z).1] at q1
    rw [(new_len n z).2] at q2
    exact ⟨p, rfl, h5, q1, q2⟩
  have HN' := Lib.hid HN
  clear HN
  clear hz z
  by_cases h1 : 20 < n
  · by_cases h2 : 100 < size
    · go_enter Try.func3, Try.ntmps3
      go_wp2_with (first | (go_at_call 12; refine HK.out.mono ?_; rintro e w1 ⟨rfl, hb1⟩) | (go_at_call 13; refine (HN'.out _ _).mono ?_; rintro e w2 ⟨p, rfl, H2⟩) | (go_at_call 14; refine H2.out.2.1.mono ?_; rintro e w' ⟨rfl, rfl⟩) | (go_at_call 15; refine H2.out.2.2.mono ?_; rintro e w' ⟨rfl, rfl⟩))
      go_ret
      exact ⟨rfl, hb1.trans (H2.out.1.mono hb1.size)⟩
    · go_enter Try.func3, Try.ntmps3
      go_wp2_with (first | (go_at_call 12; refine HK.out.mono ?_; rintro e w1 ⟨rfl, hb1⟩) | (go_at_call 13; refine (HN'.out _ _).mono ?_; rintro e w2 ⟨p, rfl, H2⟩) | (go_at_call 14; refine H2.out.2.1.mono ?_; rintro e w' ⟨rfl, rfl⟩) | (go_at_call 15; refine H2.out.2.2.mono ?_; rintro e w' ⟨rfl, rfl⟩))
      go_ret
      exact ⟨rfl, hb1.trans (H2.out.1.mono hb1.size)⟩
  · go_enter Try.func3, Try.ntmps3
    go_wp2_with (first | (go_at_call 12; refine HK.out.mono ?_; rintro e w1 ⟨rfl, hb1⟩) | (go_at_call 13; refine (HN'.out _ _).mono ?_; rintro e w2 ⟨p, rfl, H2⟩) | (go_at_call 14; refine H2.out.2.1.mono ?_; rintro e w' ⟨rfl, rfl⟩) | (go_at_call 15; refine H2.out.2.2.mono ?_; rintro e w' ⟨rfl, rfl⟩))
    go_ret
    exact ⟨rfl, hb1.trans (H2.out.1.mono hb1.size)⟩

theorem tmod_place (k n : Int) (hn : 0 < n) : (k.tmod n < 0 → k.tmod n + n = k % n) ∧ (0 ≤ k.tmod n → k.tmod n = k % n) := by
  have h0 := Int.emod_nonneg k (Int.ne_of_gt hn)
  have h1 := Int.emod_lt_of_pos k hn
  rw [Int.tmod_eq_emod]
  split <;> omega
/-- 'augurhelp.Place': what is left of a division, from nought on. -/
theorem place_any (k n : Int) (hn : 0 < n ∧ n ≤ 9223372036854775807) (w : World) : Calls Try.prog 19 #[.int .i64 k, .int .i64 n] w fun e w' => e = .returned (.int .i64 (k % n)) ∧ w = w' := by
  have hz : (n == 0) = false := by simp; omega
  have hz2 : ¬ n = 0 := by omega
  have hz3 : ¬ n = -1 := by omega
  have h0 := Int.emod_nonneg k (Int.ne_of_gt hn.1)
  have h1 := Int.emod_lt_of_pos k hn.1
  obtain ⟨q1, q2⟩ := tmod_place k n hn.1
  by_cases h : k.tmod n < 0
  · have hw : wrap64 (k.tmod n + n) = k % n := by rw [q1 h]; exact IntWalk.wrap64_in _ (by omega)
    clear q1 q2 h0 h1
    go_enter Try.func19, Try.ntmps19
    go_wp2
    go_ret
    simp [hw]
  · have hw := q2 (by omega)
    clear q1 q2 h0 h1
    go_enter Try.func19, Try.ntmps19
    go_wp2
    go_ret
    simp [hw]
theorem places (cut : Int) : cut % 2 = 0 ∨ cut % 2 = 1 := by omega
def cb (x : UInt8) : List UInt8 := x :: List.replicate 63 0
theorem cst_w (x : UInt8) : ((DS.new 3 64).write 1 (cb x)).2 = 0 := rfl
def cst (x : UInt8) : DS := ((DS.new 3 64).write 1 (cb x)).1
theorem cst_at (x : UInt8) : (cst x).at 1 = 0 := rfl
theorem cst_read (x : UInt8) : (cst x).read 1 = cb x := rfl
theorem cst_cut0 (x y : UInt8) : (((cst x).cutAt 0).write 2 (cb y)).2 = 32 ∧ (((cst x).cutAt 0).write 0 (cb y)).2 = 32 ∧ (((cst x).cutAt 0).write 0 (cb y)).1.at 1 = 32 ∧ (((cst x).cutAt 0).write 0 (cb y)).1.read 1 = [] := ⟨rfl, rfl, rfl, rfl⟩
theorem cst_cut1 (x y : UInt8) : (((cst x).cutAt 1).write 2 (cb y)).2 = 0 ∧ (((cst x).cutAt 1).write 0 (cb y)).2 = 0 ∧ (((cst x).cutAt 1).write 0 (cb y)).1.at 1 = 0 ∧ (((cst x).cutAt 1).write 0 (cb y)).1.read 1 = cb x ∧
    (((cst x).cutAt 1).write 2 (cb y)).1.at 0 = 0 ∧ (((cst x).cutAt 1).write 2 (cb y)).1.read 0 = List.replicate 64 0 := ⟨rfl, rfl, rfl, rfl, rfl, rfl⟩
end Go.Proofs.Ytekolejeliefdaa
