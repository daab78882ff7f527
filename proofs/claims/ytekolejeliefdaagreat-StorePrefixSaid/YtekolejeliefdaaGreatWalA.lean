/- The log: what a log in memory reads as, and the contracts of its small functions. -/
import Derived.Test.YtekolejeliefdaaGreatDiskF
import Derived.Lib.SlBytesRow
import Derived.Lib.EndianBits
set_option linter.unusedVariables false
set_option linter.unusedSimpArgs false
namespace Go.Proofs.YtekolejeliefdaaGreat
open Go.RowKit
variable {X : Nat → Prop}

/-- A log: its turn, the next frame's number, the sector behind the last one, how many records there are; what began frames that failed. -/
structure LS where
  turn : Nat
  next : Nat
  at_ : Nat
  count : Nat
  undone : ME

/-- The log at block lp, its map in block um, over a disk. -/
structure LogAt (X : Nat → Prop) (w : World) (lp um : Nat) (l : LS) (p g m : Nat) (s : DS) : Prop where
  blk : w.heap[lp]? = some (.cells #[.pointer (some ⟨p, 0, none⟩), .int .u64 l.turn, .int .u64 l.next, .int .i64 l.at_, .int .i64 l.count, .map (some um)] 162 (0, 0))
  und : MapL Tryz.prog 3 w um l.undone
  disk : DiskAt X w p g m s
  ne : um ≠ m
  off : ¬ X lp ∧ ¬ X um

section
variable {w w1 : World} {lp um p g m : Nat} {l : LS} {s : DS}
theorem LogAt.lt (h : LogAt X w lp um l p g m s) : lp < w.heap.size ∧ um < w.heap.size := ⟨lt_of_heap h.blk, h.und.lt⟩
theorem LogAt.apart (h : LogAt X w lp um l p g m s) : lp ≠ um ∧ lp ≠ p ∧ lp ≠ g ∧ lp ≠ m ∧ um ≠ p ∧ um ≠ g ∧ um ≠ m := by
  obtain ⟨sv, hb, cap, cur, rfl, hg, _⟩ := h.disk.blk
  obtain ⟨es, cl, hu, _⟩ := h.und
  obtain ⟨l', ⟨es', cl', hm, _⟩, _⟩ := h.disk.map
  have hl := h.blk
  refine ⟨fun e => ?_, fun e => ?_, fun e => ?_, fun e => ?_, fun e => ?_, fun e => ?_, h.ne⟩ <;> subst e <;> simp_all
theorem LogAt.drew (h : LogAt X w lp um l p g m s) : LogAt X w.drew lp um l p g m s := ⟨h.blk, h.und.kept rfl, h.disk.drewN 1, h.ne, h.off⟩
theorem half_any (h : LogAt X w lp um l p g m s) : Calls Tryz.prog 153 #[.pointer (some ⟨lp, 0, none⟩)] w fun e w' => e = .returned (.int .i64 (s.sure.length / 2 : Nat)) ∧ w = w' := by
  have c0 := cell_of_block h.blk 0
  simp at c0
  have hs := sectors_any h.disk
  have HS := Lib.hid hs
  have hz := h.disk.ok.n2
  clear hs h
  go_enter Tryz.func153, Tryz.ntmps153
  go_wp2_with (go_at_call 81; refine HS.out.mono ?_; rintro e w' ⟨rfl, rfl⟩)
  go_ret
  refine ⟨ret_int ?_, rfl⟩
  omega
theorem size_any' (h : LogAt X w lp um l p g m s) : Calls Tryz.prog 129 #[.pointer (some ⟨lp, 0, none⟩)] w fun e w' => e = .returned (.int .i64 (s.size - 16 : Nat)) ∧ w = w' := by
  have c0 := cell_of_block h.blk 0
  simp at c0
  have hs := size_any h.disk
  have HS := Lib.hid hs
  have hz := h.disk.ok.z1
  have hz2 := h.disk.ok.z2
  have hh : ((s.size : Int)) - 16 = ((s.size - 16 : Nat) : Int) := by omega
  clear hs h
  go_enter Tryz.func129, Tryz.ntmps129
  go_wp2_with (go_at_call 82; refine HS.out.mono ?_; rintro e w' ⟨rfl, rfl⟩)
  go_ret
  exact ⟨rfl, rfl⟩
/-- A slice's bytes, one by one. -/
theorem Rd.bytes {a : Option Addr} {n c : Nat} {xs : List UInt8} (h : Rd w 5 1 (.slice a n c) n (u8s xs)) (h0 : 0 < n) :
    ∃ b off, a = some ⟨b, off, none⟩ ∧ ∀ (j : Nat) (x : UInt8), xs[j]? = some x → w.cell? ⟨b, off + j, none⟩ = some (.int .u8 x.toNat) := by
  have hl : xs.length = n := by have := h.1; simpa [u8s] using this
  obtain ⟨b, off, c', e1, _, hc⟩ := h.cell h0
  simp only [Value.slice.injEq] at e1
  refine ⟨b, off, e1.1, fun j x hx => ?_⟩
  have hj := (List.getElem?_eq_some_iff.1 hx).1
  rw [hc j (by omega)]
  simp [u8s, u8, hx]
/-- Bytes as a number, the highest first. -/
def getF (xs : List UInt8) : Nat := xs.foldl (fun n x => n * 256 % 18446744073709551616 + x.toNat) 0
theorem get_any {v : Value} {n : Nat} {xs : List UInt8} (h : Rd w 5 1 v n (u8s xs)) : Calls Tryz.prog 130 #[v] w fun e w' => e = .returned (.int .u64 (getF xs)) ∧ w = w' := by
  obtain ⟨a, c, rfl⟩ := h.form
  have hl : xs.length = n := by have := h.1; simpa [u8s] using this
  have hn := h.2.1
  simp only [maxLen] at hn
  have H := Lib.hid h
  clear h
  go_enter Tryz.func130, Tryz.ntmps130
  go_wp2
  go_loop [5, 3, 8] (fun _ t i => ∃ k : Nat, k ≤ n ∧ i = .int .i64 k ∧ t = .int .u64 (getF (xs.take k))) (fun _ _ i => n - (intOf i).toNat)
  case atStart => exact ⟨0, by omega, rfl, by simp [getF]⟩
  case round =>
    obtain ⟨k, hk, rfl, rfl⟩ := hrel
    by_cases hkn : k < n
    · have hx : xs[k]? = some xs[k] := List.getElem?_eq_getElem (by omega)
      obtain ⟨b, off, rfl, hc⟩ := H.out.bytes (by omega)
      have hcell := hc k _ hx
      clear hc
      have hb : bits .or .u64 (IntKind.u64.wrap ((getF (xs.take k) : Int) * 256)) (IntKind.u64.wrap (xs[k].toNat : Int)) = (getF (xs.take (k + 1)) : Int) := by
        have hxk : xs[k].toNat < 256 := xs[k].toNat_lt
        have e1 : getF (xs.take (k + 1)) = getF (xs.take k) * 256 % 18446744073709551616 + xs[k].toNat := by
          have e2 : xs.take (k + 1) = xs.take k ++ [xs[k]] := by rw [List.take_add_one, hx]; rfl
          rw [e2]
          simp only [getF, List.foldl_append, List.foldl_cons, List.foldl_nil]
        rw [e1, IntKind.wrap_u64, IntKind.wrap_u64]
        have h1 := bits_join .u64 64 (by decide) wraps_u64 8 ((getF (xs.take k) : Int) * 256 % 18446744073709551616) ((xs[k].toNat : Int) % 18446744073709551616) (by omega) (by omega) (by omega) (by omega) (by omega) (by omega)
        rw [h1]
        omega
      have HB := Lib.hid hb
      clear hb
      go_wp2
      exact ⟨⟨k + 1, by omega, by go_num, by rw [HB.out]⟩, by simp [intOf]; omega⟩
    · obtain rfl : k = n := by omega
      go_wp2
      go_ret
      rw [List.take_of_length_le (by omega)]
      exact ⟨rfl, rfl⟩
/-- How many sectors so many bytes take. -/
def secsF (sz n : Nat) : Nat := n / sz + min (n % sz) 1
theorem sectors_any' (h : LogAt X w lp um l p g m s) (n : Nat) (hn : n ≤ 9223372036854775807) : Calls Tryz.prog 132 #[.pointer (some ⟨lp, 0, none⟩), .int .i64 n] w fun e w' => e = .returned (.int .i64 (secsF (s.size - 16) n)) ∧ w.drew = w' := by
  have HS := Lib.hid (size_any' h.drew)
  have hz := h.disk.ok.z1
  have hz2 := h.disk.ok.z2
  clear h
  obtain ⟨z, hzz⟩ : ∃ z, s.size - 16 = z := ⟨_, rfl⟩
  rw [hzz] at HS ⊢
  have hz0 : ¬ z = 0 := by omega
  have hz1 : 0 < z := by omega
  have hS0 : True := trivial
  go_enter Tryz.func132, Tryz.ntmps132
  go_wp2_with fail
  refine region_X (fun W => True) (by kernel_rfl) ?_
  simp only [List.length_cons, List.length_nil, Nat.reduceAdd]
  refine AnyX.take 0 rfl (by kernel_rfl) (fun _ _ _ h => h) hS0 rfl (by rintro W _; go_simp; rfl) ?_; simp only [Act.put, List.setIfInBounds_toArray, List.set_cons_succ, List.set_cons_zero]
  refine AnyX.take 1 rfl (by kernel_rfl) (fun _ _ _ h => h) hS0 rfl (by rintro W _; go_simp; rfl) ?_; simp only [Act.put, List.setIfInBounds_toArray, List.set_cons_succ, List.set_cons_zero]
  refine AnyX.take 4 rfl (by kernel_rfl) (fun _ _ _ h => h) hS0 rfl (by rintro W _; go_simp; rfl) ?_; simp only [Act.put, List.setIfInBounds_toArray, List.set_cons_succ, List.set_cons_zero]
  refine AnyX.take 5 rfl (by kernel_rfl) (fun _ _ _ h => h) hS0 rfl (by rintro W _; go_simp; rfl) ?_; simp only [Act.put, List.setIfInBounds_toArray, List.set_cons_succ, List.set_cons_zero]
  refine AnyX.act 2 rfl (by kernel_rfl) rfl (fun K hK => ?_)
  go_wp2_with (go_at_call 129; refine HS.out.mono ?_; rintro e w' ⟨rfl, rfl⟩)
  refine hK _ _ hS0 ?_
  clear hK K
  refine AnyX.take 3 rfl (by kernel_rfl) (fun _ _ _ h => h) hS0 rfl (by rintro W _; go_simp; rfl) ?_; simp only [Act.put, List.setIfInBounds_toArray, List.set_cons_succ, List.set_cons_zero]
  refine AnyX.act 6 rfl (by kernel_rfl) rfl (fun K hK => ?_)
  go_wp2_with (go_at_call 129; refine HS.out.mono ?_; rintro e w' ⟨rfl, rfl⟩)
  refine hK _ _ hS0 ?_
  clear hK K
  refine AnyX.take 7 rfl (by kernel_rfl) (fun _ _ _ h => h) hS0 rfl (by rintro W _; go_simp; rfl) ?_; simp only [Act.put, List.setIfInBounds_toArray, List.set_cons_succ, List.set_cons_zero]
  refine AnyX.take 8 rfl (by kernel_rfl) (fun _ _ _ h => h) hS0 rfl (by rintro W _; go_simp; rfl) ?_; simp only [Act.put, List.setIfInBounds_toArray, List.set_cons_succ, List.set_cons_zero]
  refine AnyX.take 9 rfl (by kernel_rfl) (fun _ _ _ h => h) hS0 rfl (by rintro W _; go_simp; rfl) ?_; simp only [Act.put, List.setIfInBounds_toArray, List.set_cons_succ, List.set_cons_zero]
  refine AnyX.end_ 10 rfl (by kernel_rfl) (by kernel_rfl) (by kernel_rfl) rfl ?_
  go_wp2
  go_ret
  refine ⟨ret_int ?_, rfl⟩
  have e1 : (n : Int) / (z : Int) = ((n / z : Nat) : Int) := (Int.natCast_ediv n z).symm
  have e2 : (n : Int).tmod (z : Int) = ((n % z : Nat) : Int) := by rw [Int.tmod_eq_emod_of_nonneg (by omega)]; exact (Int.natCast_emod n z).symm
  have q1 := Nat.div_le_self n z
  have q3 : n / z + n % z ≤ n := by
    have h1 := Nat.div_add_mod n z
    have h2 : n / z ≤ z * (n / z) := Nat.le_mul_of_pos_left _ hz1
    omega
  simp only [secsF]
  rw [e1, e2]
  generalize n / z = A at *
  generalize n % z = B at *
  rw [IntWalk.i64_left, IntWalk.i64_left, IntWalk.wrap64_in (A : Int) (by omega), IntWalk.wrap64_in _ (by omega)]
  omega
theorem most_any (h : LogAt X w lp um l p g m s) (a : Nat) (ha : a ≤ s.sure.length / 2) : Calls Tryz.prog 131 #[.pointer (some ⟨lp, 0, none⟩), .int .i64 a] w fun e w' => e = .returned (.int .i64 ((s.sure.length / 2 - a) * (s.size - 16) : Nat)) ∧ w = w' := by
  have HS := Lib.hid (size_any' h)
  have HH := Lib.hid (half_any h)
  have hz := h.disk.ok.z1
  have hz2 := h.disk.ok.z2
  have hn := h.disk.ok.n2
  clear h
  have hm : ((s.sure.length / 2 : Nat) : Int) - (a : Int) = ((s.sure.length / 2 - a : Nat) : Int) := by omega
  obtain ⟨z, hzz⟩ : ∃ z, s.size - 16 = z := ⟨_, rfl⟩
  obtain ⟨y, hyy⟩ : ∃ y, s.sure.length / 2 = y := ⟨_, rfl⟩
  obtain ⟨x, hxx⟩ : ∃ x, y - a = x := ⟨_, rfl⟩
  rw [hzz] at HS ⊢
  rw [hyy] at HH hm ha ⊢
  rw [hxx] at hm ⊢
  have hb : (x : Int) * (z : Int) = ((x * z : Nat) : Int) := by push_cast; rfl
  have hb2 : x * z ≤ 2048 * 4096 := Nat.mul_le_mul (by omega) (by omega)
  have HX0 := Lib.hid (show x ≤ 2048 by omega)
  clear hxx hyy hzz
  go_enter Tryz.func131, Tryz.ntmps131
  go_wp2_with (first | (go_at_call 153; refine HH.out.mono ?_; rintro e w' ⟨rfl, rfl⟩) | (go_at_call 129; refine HS.out.mono ?_; rintro e w' ⟨rfl, rfl⟩))
  go_ret
  have hx0 := HX0.out
  rw [IntWalk.wrap64_in (x : Int) (by omega), hb, IntWalk.wrap64_in _ (by omega)]
  exact ⟨rfl, rfl⟩
theorem long_any (v : Value) (n c : Nat) (a : Option Addr) (w : World) : Calls Tryz.prog 141 #[.slice a n c] w fun e w' => e = .returned (.bool (decide (1048576 < n))) ∧ w = w' := by
  have e1 : decide (1048576 < (n : Int)) = decide (1048576 < n) := by simp only [decide_eq_decide]; omega
  go_enter Tryz.func141, Tryz.ntmps141
  go_wp2
  go_ret
  simp [e1]
/-- What 'must' panics with. -/
def stopV (e : Int) : Value := .iface 203 (.agg #[.int .i64 e])
theorem must_ok (e : Int) (w : World) : Calls Tryz.prog 87 #[.bool true, .int .i64 e] w fun e w' => e = .returned (.tuple #[]) ∧ w = w' := by
  go_enter Tryz.func87, Tryz.ntmps87
  go_wp2
  go_end0
  exact ⟨rfl, rfl⟩
theorem must_no (e : Int) (w : World) : Calls Tryz.prog 87 #[.bool false, .int .i64 e] w fun x w' => x = .panicked [{ v := stopV e, recovered := false }] ∧ w = w' := by
  go_enter Tryz.func87, Tryz.ntmps87
  go_wp2
  exact ⟨rfl, rfl, rfl⟩
end
end Go.Proofs.YtekolejeliefdaaGreat
