/- The log: what is laid. -/
import Derived.Test.YtekolejeliefdaaGreatWalB
set_option linter.unusedVariables false
set_option linter.unusedSimpArgs false
namespace Go.Proofs.YtekolejeliefdaaGreat
open Go.RowKit
variable {X : Nat → Prop}

theorem bodyF_step (rs : List (List UInt8)) (j : Nat) (r : List UInt8) (hr : rs[j]? = some r) : (bodyF (rs.take (j + 1))).length = (bodyF (rs.take j)).length + 4 + r.length := by
  rw [bodyF_take rs j r hr]
  simp
  omega

theorem ret_value {a b : Int} (h : a = b) : Value.int .i64 a = .int .i64 b := by rw [h]
theorem RecsAt.kept {w w1 : World} {cs : List Value} {rs : List (List UInt8)} (h : RecsAt w cs rs) (hk : KeepT 5 w w1) : RecsAt w1 cs rs := ⟨h.1, fun i v r h1 h2 => (h.2 i v r h1 h2).kept hk⟩

section
variable {w w1 : World} {lp um p g m : Nat} {l : LS} {s : DS}
set_option maxRecDepth 100000 in
theorem bytes_any (h : LogAt X w lp um l p g m s) {v : Value} {n : Nat} {cs : List Value} {rs : List (List UInt8)} (hv : Rd w 114 1 v n cs) (hr : RecsAt w cs rs) (hlen : ∀ r ∈ rs, r.length ≤ 1048576) :
    Calls Tryz.prog 142 #[.pointer (some ⟨lp, 0, none⟩), v] w fun e w' => e = .returned (.int .i64 (min (32 + (bodyF rs).length) (s.sure.length * s.size + 1) : Nat)) ∧ w.drew = w' := by
  obtain ⟨a, c, rfl⟩ := hv.form
  have hcn : cs.length = n := by have := hv.1; omega
  have hn := hv.2.1
  simp only [maxLen] at hn
  have c0 := cell_of_block h.blk 0
  simp at c0
  have hS0 : w.drew.cell? ⟨lp, 0, none⟩ = some (.pointer (some ⟨p, 0, none⟩)) := c0
  have HS1 := Lib.hid (sectors_any (h.disk.drewN 1))
  have HS2 := Lib.hid (size_any (h.disk.drewN 1))
  have hz1 := h.disk.ok.n1
  have hz2 := h.disk.ok.n2
  have hz3 := h.disk.ok.z1
  have hz4 := h.disk.ok.z2
  have H := Lib.hid (And.intro hv (And.intro hr hlen))
  have hm : (s.sure.length : Int) * (s.size : Int) = ((s.sure.length * s.size : Nat) : Int) := by push_cast; rfl
  have hm2 : s.sure.length * s.size ≤ 4096 * 4096 := Nat.mul_le_mul hz2 hz4
  have hm3 : 1 * 64 ≤ s.sure.length * s.size := Nat.mul_le_mul hz1 hz3
  obtain ⟨A, hA⟩ : ∃ A, s.sure.length * s.size = A := ⟨_, rfl⟩
  rw [hA] at hm hm2 hm3 ⊢
  have hmm : (s.sure.length : Int) * (s.size : Int) = (A : Int) := hm
  have hA2 : A ≤ 16777216 := by omega
  have hA3 : 64 ≤ A := by omega
  clear hv hr hlen h hm hA hz1 hz2 hz3 hz4 hm2 hm3
  go_enter Tryz.func142, Tryz.ntmps142
  go_wp2_with fail
  refine region_X (fun W => W.cell? ⟨lp, 0, none⟩ = some (.pointer (some ⟨p, 0, none⟩))) (by kernel_rfl) ?_
  simp only [List.length_cons, List.length_nil, Nat.reduceAdd]
  refine AnyX.take 0 rfl (by kernel_rfl) (fun _ _ _ h => h) hS0 rfl (by rintro W s0; go_simp; rfl) ?_; simp only [Act.put, List.setIfInBounds_toArray, List.set_cons_succ, List.set_cons_zero]
  refine AnyX.take 1 rfl (by kernel_rfl) (fun _ _ _ h => h) hS0 rfl (by rintro W s0; go_simp; rfl) ?_; simp only [Act.put, List.setIfInBounds_toArray, List.set_cons_succ, List.set_cons_zero]
  refine AnyX.take 2 rfl (by kernel_rfl) (fun _ _ _ h => h) hS0 rfl (by rintro W s0; go_simp; rfl) ?_; simp only [Act.put, List.setIfInBounds_toArray, List.set_cons_succ, List.set_cons_zero]
  refine AnyX.take 3 rfl (by kernel_rfl) (fun _ _ _ h => h) hS0 rfl (by rintro W s0; go_simp; rfl) ?_; simp only [Act.put, List.setIfInBounds_toArray, List.set_cons_succ, List.set_cons_zero]
  refine AnyX.take 4 rfl (by kernel_rfl) (fun _ _ _ h => h) hS0 rfl (by rintro W s0; go_simp; rfl) ?_; simp only [Act.put, List.setIfInBounds_toArray, List.set_cons_succ, List.set_cons_zero]
  refine AnyX.take 5 rfl (by kernel_rfl) (fun _ _ _ h => h) hS0 rfl (by rintro W s0; go_simp; rfl) ?_; simp only [Act.put, List.setIfInBounds_toArray, List.set_cons_succ, List.set_cons_zero]
  refine AnyX.take 7 rfl (by kernel_rfl) (fun _ _ _ h => h) hS0 rfl (by rintro W s0; go_simp; rfl) ?_; simp only [Act.put, List.setIfInBounds_toArray, List.set_cons_succ, List.set_cons_zero]
  refine AnyX.take 8 rfl (by kernel_rfl) (fun _ _ _ h => h) hS0 rfl (by rintro W s0; go_simp; rfl) ?_; simp only [Act.put, List.setIfInBounds_toArray, List.set_cons_succ, List.set_cons_zero]
  refine AnyX.take 9 rfl (by kernel_rfl) (fun _ _ _ h => h) hS0 rfl (by rintro W s0; go_simp; rfl) ?_; simp only [Act.put, List.setIfInBounds_toArray, List.set_cons_succ, List.set_cons_zero]
  refine AnyX.take 10 rfl (by kernel_rfl) (fun _ _ _ h => h) hS0 rfl (by rintro W s0; go_simp; rfl) ?_; simp only [Act.put, List.setIfInBounds_toArray, List.set_cons_succ, List.set_cons_zero]
  refine AnyX.take 11 rfl (by kernel_rfl) (fun _ _ _ h => h) hS0 rfl (by rintro W s0; go_simp; rfl) ?_; simp only [Act.put, List.setIfInBounds_toArray, List.set_cons_succ, List.set_cons_zero]
  refine AnyX.take 12 rfl (by kernel_rfl) (fun _ _ _ h => h) hS0 rfl (by rintro W s0; go_simp; rfl) ?_; simp only [Act.put, List.setIfInBounds_toArray, List.set_cons_succ, List.set_cons_zero]
  refine AnyX.act 6 rfl (by kernel_rfl) rfl (fun K hK => ?_)
  go_wp2_with (first | (go_at_call 81; refine HS1.out.mono ?_; rintro e w' ⟨rfl, rfl⟩) | (go_at_call 82; refine HS2.out.mono ?_; rintro e w' ⟨rfl, rfl⟩))
  refine hK _ _ hS0 ?_
  clear hK K
  refine AnyX.act 13 rfl (by kernel_rfl) rfl (fun K hK => ?_)
  go_wp2_with (first | (go_at_call 81; refine HS1.out.mono ?_; rintro e w' ⟨rfl, rfl⟩) | (go_at_call 82; refine HS2.out.mono ?_; rintro e w' ⟨rfl, rfl⟩))
  refine hK _ _ hS0 ?_
  clear hK K
  refine AnyX.take 14 rfl (by kernel_rfl) (fun _ _ _ h => h) hS0 rfl (by rintro W s0; go_simp; rfl) ?_; simp only [Act.put, List.setIfInBounds_toArray, List.set_cons_succ, List.set_cons_zero]
  refine AnyX.end_ 15 rfl (by kernel_rfl) (by kernel_rfl) (by kernel_rfl) rfl ?_
  go_wp2
  clear HS1 HS2 hS0 c0
  go_loop [6, 8, 26] (fun t _ i => ∃ j : Nat, j ≤ n ∧ i = .int .i64 j ∧ t = .int .i64 (min (32 + (bodyF (rs.take j)).length) (A + 1) : Nat)) (fun _ _ i => n - (intOf i).toNat)
  case atStart => exact ⟨0, by omega, rfl, ret_value (by simp [bodyF]; omega)⟩
  case round =>
    obtain ⟨j, hj, rfl, rfl⟩ := hrel
    by_cases hjn : j < n
    · obtain ⟨r, hrj⟩ : ∃ r, rs[j]? = some r := ⟨_, List.getElem?_eq_getElem (by have := H.out.2.1.1; omega)⟩
      obtain ⟨rv, hcj⟩ : ∃ rv, cs[j]? = some rv := ⟨_, List.getElem?_eq_getElem (by omega)⟩
      obtain ⟨b, off, c', e1, _, hc0⟩ := H.out.1.cell (by omega)
      have hcell := hc0 j (by omega)
      rw [hcj] at hcell
      clear hc0
      simp only [Value.slice.injEq, true_and] at e1
      obtain ⟨rfl, rfl⟩ := e1
      obtain ⟨ra, rc, rfl⟩ := (H.out.2.1.2 j rv r hcj hrj).form
      have hrl : r.length ≤ 1048576 := H.out.2.2 r (List.mem_of_getElem? hrj)
      have hst := bodyF_step rs j r hrj
      obtain ⟨B, hB⟩ : ∃ B, (bodyF (rs.take j)).length = B := ⟨_, rfl⟩
      obtain ⟨C, hC⟩ : ∃ C, min (32 + B) (A + 1) = C := ⟨_, rfl⟩
      rw [hB] at hst ⊢
      rw [hC]
      have hC2 : C ≤ 16777217 := by omega
      have HST := Lib.hid (And.intro hst hC)
      clear hst hC hcj hrj hB
      go_wp2
      refine ⟨⟨j + 1, by omega, by go_num, ret_value ?_⟩, by simp [intOf]; omega⟩
      have h1 := HST.out.1
      have h2 := HST.out.2
      omega
    · obtain rfl : j = n := by omega
      go_wp2
      go_ret
      rw [List.take_of_length_le (by have := H.out.2.1.1; omega)]
      exact ⟨rfl, rfl⟩

def isLong (r : List UInt8) : Bool := decide (1048576 < r.length)
set_option maxRecDepth 100000 in
theorem index_long {v : Value} {n : Nat} {cs : List Value} {rs : List (List UInt8)} (hv : Rd w 114 1 v n cs) (hr : RecsAt w cs rs) :
    Calls Tryz.prog 158 #[v, .func (.func 141) #[] #[]] w fun e w' => ∃ i : Int, e = .returned (.int .i64 i) ∧ decide (0 ≤ i) = rs.any isLong ∧ w = w' := by
  obtain ⟨a, c, rfl⟩ := hv.form
  have hcn : cs.length = n := by have := hv.1; omega
  have hn := hv.2.1
  simp only [maxLen] at hn
  have H := Lib.hid (And.intro hv hr)
  have HL := Lib.hid (fun (v : Value) (n c : Nat) (a : Option Addr) => long_any v n c a w)
  have hen := enters_of Tryz.func141 (by kernel_rfl) rfl
  clear hv hr
  go_enter Tryz.func158, Tryz.ntmps158
  go_wp2
  go_loop [5, 8] (fun _ i => ∃ j : Nat, j ≤ n ∧ i = .int .i64 j ∧ Hid ((rs.take j).any isLong = false)) (fun _ i => n - (intOf i).toNat)
  case atStart => exact ⟨0, by omega, rfl, rfl⟩
  case round =>
    obtain ⟨j, hj, rfl, hno⟩ := hrel
    by_cases hjn : j < n
    · obtain ⟨r, hrj⟩ : ∃ r, rs[j]? = some r := ⟨_, List.getElem?_eq_getElem (by have := H.out.2.1; omega)⟩
      obtain ⟨rv, hcj⟩ : ∃ rv, cs[j]? = some rv := ⟨_, List.getElem?_eq_getElem (by omega)⟩
      obtain ⟨b, off, c', e1, _, hc0⟩ := H.out.1.cell (by omega)
      have hcell := hc0 j (by omega)
      rw [hcj] at hcell
      clear hc0
      simp only [Value.slice.injEq, true_and] at e1
      obtain ⟨rfl, rfl⟩ := e1
      obtain ⟨ra, rc, rfl⟩ := (H.out.2.2 j rv r hcj hrj).form
      have HRJ := Lib.hid hrj
      clear hrj hcj
      by_cases hlo : 1048576 < r.length
      · have hl := HL.out (.slice ra r.length rc) r.length rc ra
        rw [decide_eq_true hlo] at hl
        have HL' := Lib.hid hl
        clear hl
        go_wp2_with (go_at_call 141; refine HL'.out.mono ?_; rintro e w' ⟨rfl, rfl⟩)
        go_ret
        refine ⟨_, rfl, ?_, rfl⟩
        have : rs.any isLong = true := List.any_eq_true.2 ⟨r, List.mem_of_getElem? HRJ.out, by simp [isLong, hlo]⟩
        rw [this]
        simp
      · have hl := HL.out (.slice ra r.length rc) r.length rc ra
        rw [decide_eq_false hlo] at hl
        have HL' := Lib.hid hl
        clear hl
        go_wp2_with (go_at_call 141; refine HL'.out.mono ?_; rintro e w' ⟨rfl, rfl⟩)
        refine ⟨⟨j + 1, by omega, by go_num, ?_⟩, by simp [intOf]; omega⟩
        show (rs.take (j + 1)).any isLong = false
        rw [List.take_add_one, HRJ.out, List.any_append, hno.out]
        simp [isLong]
        omega
    · obtain rfl : j = n := by omega
      go_wp2
      go_ret
      rw [List.take_of_length_le (by have := H.out.2.1; omega)] at hno
      exact ⟨_, rfl, by rw [hno.out]; rfl, rfl⟩
theorem contains_long {v : Value} {n : Nat} {cs : List Value} {rs : List (List UInt8)} (hv : Rd w 114 1 v n cs) (hr : RecsAt w cs rs) :
    Calls Tryz.prog 140 #[v, .func (.func 141) #[] #[]] w fun e w' => e = .returned (.bool (rs.any isLong)) ∧ w = w' := by
  have HI := Lib.hid (index_long hv hr)
  clear hv hr
  go_enter Tryz.func140, Tryz.ntmps140
  go_wp2_with (go_at_call 158; refine HI.out.mono ?_; rintro e w' ⟨i, rfl, hi, rfl⟩)
  go_ret
  rw [← hi]
  exact ⟨rfl, rfl⟩
end
end Go.Proofs.YtekolejeliefdaaGreat
