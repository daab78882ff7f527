/- The store's statements: what they make. -/
import Derived.Test.YtekolejeliefdaaGreatStM
set_option linter.unusedVariables false
set_option linter.unusedSimpArgs false
namespace Go.Proofs.YtekolejeliefdaaGreat
open Go.RowKit

def keysF : List (List UInt8) := [[97], [97, 47, 98], [], [98], [97, 47], [122, 122], [97, 47, 99]]
def keyF (k : Nat) : List UInt8 := (keysF[k % 7]?).getD []
set_option maxHeartbeats 2000000 in
theorem key_any (k : Nat) (hk : k < 256) (w : World) : Calls Tryz.prog 58 #[.int .u8 k] w fun e w' => e = .returned (bstr (keyF k)) ∧ Ext (fun _ => False) w w' := by
  have h7 : k % 7 < 7 := Nat.mod_lt _ (by omega)
  obtain ⟨r, hr⟩ : ∃ r, k % 7 = r := ⟨_, rfl⟩
  have hrt : (k : Int).tmod 7 = (r : Int) := by rw [Int.tmod_eq_emod_of_nonneg (by omega)]; omega
  have hkf : keyF k = (keysF[r]?).getD [] := by rw [keyF, hr]
  rw [hkf]
  rw [hr] at h7
  clear hkf hr
  have hcases : r = 0 ∨ r = 1 ∨ r = 2 ∨ r = 3 ∨ r = 4 ∨ r = 5 ∨ r = 6 := by omega
  rcases hcases with rfl | rfl | rfl | rfl | rfl | rfl | rfl <;>
  · go_enter Tryz.func58, Tryz.ntmps58
    go_wp2
    go_ret
    exact ⟨rfl, (Ext.refl _ w).alloc _⟩


def valF (i n : Nat) : List UInt8 := (List.range n).map fun j => UInt8.ofNat (13 * i + j)
theorem valF_length (i n : Nat) : (valF i n).length = n := by simp [valF]
theorem valF_snoc (i n : Nat) : valF i (n + 1) = valF i n ++ [UInt8.ofNat (13 * i + n)] := by simp [valF, List.range_succ]
theorem u8s_len (l : List UInt8) : (u8s l).length = l.length := by simp [u8s]

set_option maxHeartbeats 2000000 in
theorem value_any (i n : Nat) (hi : i ≤ 1000) (hn : n ≤ 255) (w : World) : Calls Tryz.prog 59 #[.int .i64 i, .int .i64 n] w fun e w' => e = .returned (bstr (valF i n)) ∧ Ext (fun _ => False) w w' := by
  have hmk : ∀ W : World, (Instr.makeSlice 114 (.int .i64 (n : Int)) (.int .i64 (n : Int))).run Tryz.prog W = .ok (.slice (some ⟨W.heap.size, 0, none⟩) n n) (W.alloc (.cells (madeCells #[.int .u8 0] n) 5)) :=
    fun W => run_make_row' 114 5 (.int .u8 0) 1 Tryz.underlying114 (by kernel_rfl) rfl .i64 .i64 n (by omega) (by omega) W
  have hi2 : (i : Int) ≤ 1000 := by omega
  have hn2 : (n : Int) ≤ 255 := by omega
  have H0 : Hid ((w.alloc (.cells (madeCells #[.int .u8 0] n) 5)).heap[w.heap.size]? = some (.cells (cut3 (madeCells #[.int .u8 0] n) 0 (u8s (valF i 0))) 5 (0, 0)) ∧ Ext (fun _ => False) w (w.alloc (.cells (madeCells #[.int .u8 0] n) 5))) := by
    refine ⟨?_, (Ext.refl _ w).alloc _⟩
    have : u8s (valF i 0) = [] := rfl
    rw [this, cut3_nil]
    exact heap_alloc_new w _
  go_enter Tryz.func59, Tryz.ntmps59
  go_wp2
  go_loopw [6] (fun jv wr => ∃ j : Nat, j ≤ n ∧ jv = .int .i64 j ∧ Hid (wr.heap[w.heap.size]? = some (.cells (cut3 (madeCells #[.int .u8 0] n) 0 (u8s (valF i j))) 5 (0, 0)) ∧ Ext (fun _ => False) w wr)) (fun jv _ => n - (intOf jv).toNat)
  case atStart => exact ⟨0, Nat.zero_le _, rfl, H0⟩
  case round =>
    obtain ⟨j, hj, rfl, hin⟩ := hrel
    have hsz : (madeCells #[.int .u8 0] n).size = n := by simp [size_madeCells]
    have hbl : (u8s (valF i j)).length = j := by rw [u8s_len, valF_length]
    by_cases hjl : j < n
    · have hcell := cell_of_block hin.out.1 j
      have hfree := free_of_block hin.out.1 j
      rw [Array.getElem?_eq_getElem (by rw [cut3_size (by rw [hbl, hsz]; omega), hsz]; exact hjl)] at hcell
      obtain ⟨x0, hx0⟩ : ∃ x, (cut3 (madeCells #[.int .u8 0] n) 0 (u8s (valF i j)))[j]'(by rw [cut3_size (by rw [hbl, hsz]; omega), hsz]; exact hjl) = x := ⟨_, rfl⟩
      rw [hx0] at hcell
      have hpush := cut3_push (cur := madeCells #[.int .u8 0] n) (off := 0) (xs := u8s (valF i j)) (Proofs.YtekolejeliefdaaGreat.u8 (UInt8.ofNat (13 * i + j))) (by rw [hbl, hsz]; omega)
      rw [hbl, Nat.zero_add] at hpush
      have hsn : u8s (valF i j) ++ [Proofs.YtekolejeliefdaaGreat.u8 (UInt8.ofNat (13 * i + j))] = u8s (valF i (j + 1)) := by rw [valF_snoc]; simp [u8s]
      rw [hsn] at hpush
      have hval : (UInt8.ofNat (13 * i + j)).toNat = (13 * i + j) % 256 := by simp
      have H := Lib.hid (And.intro hin.out (And.intro hpush hval))
      clear hin hx0 hpush hsn hval hbl hsz H0
      go_wp2_with fail
      obtain ⟨⟨h1, h2⟩, hpush, hval⟩ := H.out
      have h3 := heap_setCell_at (i := j) h1 (.int .u8 ((13 * (i : Int) + (j : Int)) % 256))
      have hu : Proofs.YtekolejeliefdaaGreat.u8 (UInt8.ofNat (13 * i + j)) = .int .u8 ((13 * (i : Int) + (j : Int)) % 256) := by
        unfold Proofs.YtekolejeliefdaaGreat.u8
        rw [hval]
        congr 1
      rw [hu] at hpush
      rw [hpush] at h3
      refine ⟨⟨j + 1, by omega, by go_num, h3, h2.setCell (fun h => absurd h (by simp)) _⟩, by simp [intOf]; omega⟩
    · obtain rfl : j = n := by omega
      have hcur : (cut3 (madeCells #[.int .u8 0] j) 0 (u8s (valF i j))).toList.take j = u8s (valF i j) := by
        simp only [cut3, List.take_zero, List.nil_append, Nat.zero_add, List.toList_toArray]
        exact List.take_left' hbl
      have hrd : Rd wr 5 1 (.slice (some ⟨w.heap.size, 0, none⟩) j j) j (u8s (valF i j)) := by
        refine ⟨by rw [hbl]; omega, by simp only [maxLen]; omega, j, .inr ⟨_, 0, rfl, Nat.le_refl _, .inr ⟨_, (0, 0), hin.out.1, ?_⟩⟩⟩
        rw [List.drop_zero, Nat.mul_one]
        exact hcur
      have hcv := hrd.strD
      have HX := Lib.hid hin.out.2
      clear hin hrd hcur hbl hsz H0
      go_wp2_with fail
      go_ret
      exact ⟨rfl, HX.out⟩

end Go.Proofs.YtekolejeliefdaaGreat
