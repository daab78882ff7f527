/- A store's Open. -/
import Derived.Test.YtekolejeliefdaaGreatStL
set_option linter.unusedVariables false
set_option linter.unusedSimpArgs false
namespace Go.Proofs.YtekolejeliefdaaGreat
open Go.RowKit

set_option maxRecDepth 100000 in
set_option maxHeartbeats 2000000 in
theorem sopen_any {w0 w : World} {p g m : Nat} {s : DS} {l : LS} {ps : List SP} (h : Dsk w0 w p g m s) (hi : Inv s l (ps.map recP)) (hk : ∀ q ∈ ps, q.1.length ≤ 1000 ∧ q.2.1.length ≤ 1000 ∧ (q.2.2 = true → q.2.1 = [])) (hn : ps.length ≤ 1000000) :
    Calls Tryz.prog 19 #[.pointer (some ⟨p, 0, none⟩)] w fun e w' => ∃ sp b lp um, e = .returned (.tuple #[.pointer (some ⟨sp, 0, none⟩), .int .i64 0]) ∧ Hid (Sto w0 w' sp b lp um p g m s l (chg [] ps) ∧ Below w.heap.size w w' ∧ w.heap.size ≤ sp ∧ w.heap.size ≤ b) := by
  obtain ⟨n, hn3⟩ : ∃ n, ps.length = n := ⟨_, rfl⟩
  have HO : Hid (Calls Tryz.prog 50 #[.pointer (some ⟨p, 0, none⟩)] w fun e w' => ∃ lp um va vc, e = .returned (.tuple #[.pointer (some ⟨lp, 0, none⟩), .slice va n vc, .int .i64 0]) ∧ Hid (Sys w0 w' lp um p g m s l ∧ Recs w' g (.slice va n vc) (ps.map recP) ∧ Below w.heap.size w w' ∧ w.heap.size ≤ lp ∧ w.heap.size ≤ um)) := by
    have := open_sys h hi
    simp only [List.length_map, hn3] at this
    exact this
  have hn2 : (n : Int) ≤ 1000000 := by omega
  have H := Lib.hid (And.intro h (And.intro hk hn3))
  clear h hi hk hn hn3
  have hmm := @run_makeMap Tryz.prog
  go_enter Tryz.func19, Tryz.ntmps19
  go_wp2_with fail
  refine HO.out.mono ?_
  rintro e w1 ⟨lp, um, va, vc, rfl, H1⟩
  have H0 : Hid (∀ W : World, W = (w1.alloc (.map #[] 0)).alloc (.cells #[.pointer (some ⟨lp, 0, none⟩), .map (some w1.heap.size), .bool false] 119) →
      Sto w0 W (w1.heap.size + 1) w1.heap.size lp um p g m s l [] ∧ Recs W g (.slice va n vc) (ps.map recP) ∧ Below w.heap.size w W) := by
    rintro W rfl
    have hx : Ext (fun _ => False) w1 ((w1.alloc (.map #[] 0)).alloc (.cells #[.pointer (some ⟨lp, 0, none⟩), .map (some w1.heap.size), .bool false] 119)) := ((Ext.refl _ w1).alloc _).alloc _
    obtain ⟨q1, q2, q3, q4, q5⟩ := H1.out
    have hl := q1.log.lt
    have hd := q1.log.disk.lt
    have hb0 := q1.below.size
    have e1 : (w1.alloc (.map #[] 0)).heap.size = w1.heap.size + 1 := by simp
    have e2 := heap_alloc_new (w1.alloc (.map #[] 0)) (.cells #[.pointer (some ⟨lp, 0, none⟩), .map (some w1.heap.size), .bool false] 119)
    rw [e1] at e2
    exact ⟨⟨q1.new_ext hx, e2, MapL.kept (MapL.made w1 Tryz.prog 9) (heap_alloc_lt (by simp)), ⟨by omega, by omega⟩, ⟨by omega, by omega⟩⟩, q2.new_ext hx, q3.trans ((hx.below (fun _ _ h => h) (Nat.le_refl _)).mono q3.size)⟩
  go_wp2_with fail
  go_loopw [9, 10, 11, 27] (fun _ _ _ iv wr => ∃ j : Nat, j ≤ n ∧ iv = .int .i64 j ∧ Hid (Sto w0 wr (w1.heap.size + 1) w1.heap.size lp um p g m s l (chg [] (ps.take j)) ∧ Recs wr g (.slice va n vc) (ps.map recP) ∧ Below w.heap.size w wr)) (fun _ _ _ iv _ => n - (intOf iv).toNat)
  case atStart => exact ⟨0, by omega, rfl, Lib.hid (H0.out _ rfl)⟩
  case round =>
    obtain ⟨j, hj, rfl, hin⟩ := hrel
    by_cases hjn : j < n
    · obtain ⟨q1, q2, q3⟩ := hin.out
      obtain ⟨q, hq⟩ : ∃ q, ps[j]? = some q := ⟨_, List.getElem?_eq_getElem (by have := H.out.2.2; omega)⟩
      obtain ⟨k, x, g'⟩ := q
      obtain ⟨hkl, hxl, hgx⟩ := H.out.2.1 _ (List.mem_of_getElem? hq)
      simp only at hkl hxl hgx
      obtain ⟨cs, ho, hcl, hra⟩ := q2
      have hlen : (ps.map recP).length = n := by simp [H.out.2.2]
      obtain ⟨bk, off, c', e1, _, hc⟩ := (Rd.of_own ho).cell (by omega)
      simp only [Value.slice.injEq] at e1
      obtain ⟨rfl, hnn, rfl⟩ := e1
      clear hnn
      have h0 := hc j (by omega)
      obtain ⟨rv, hrv⟩ : ∃ rv, cs[j]? = some rv := ⟨_, List.getElem?_eq_getElem (by omega)⟩
      have hrd := hra j rv (recP (k, x, g')) hrv (by rw [List.getElem?_map, hq]; rfl)
      obtain ⟨ra, rc, rfl⟩ := hrd.form
      rw [hrv] at h0
      have HP : Hid (Calls Tryz.prog 51 #[.slice ra (recP (k, x, g')).length rc] wr fun e w' => e = .returned (.tuple #[.agg #[.string ⟨k.toArray⟩, .string ⟨x.toArray⟩, .bool g'], .bool true]) ∧ Hid (Ext (fun _ => False) wr w')) := by
        refine (pair_any (k := k) (v := x) (g := g') hrd (by omega) (by omega)).mono ?_
        rintro e w' ⟨rfl, hx⟩
        refine ⟨?_, hx⟩
        cases g' with
        | true => rw [hgx rfl]; rfl
        | false => rfl
      obtain ⟨rl, hrl⟩ : ∃ rl, (recP (k, x, g')).length = rl := ⟨_, rfl⟩
      rw [hrl] at h0 HP
      have HIN := Lib.hid (And.intro hin.out (And.intro hq (And.intro hkl hxl)))
      clear hc hrd hra hcl ho hin q1 q3 hgx hlen hq hkl hxl hrv hrl
      go_wp2_with fail
      refine HP.out.mono ?_
      rintro e w2 ⟨rfl, H2⟩
      obtain ⟨W5, hW5⟩ : ∃ W5, W5 = (w2.alloc (.cells #[.string ⟨k.toArray⟩, .string ⟨x.toArray⟩, .bool g'] 54)) := ⟨_, rfl⟩
      have hx5 : Ext (fun _ => False) wr W5 := by rw [hW5]; exact H2.out.alloc _
      have hb5 : W5.drew.heap[w2.heap.size]? = some (.cells #[.string ⟨k.toArray⟩, .string ⟨x.toArray⟩, .bool g'] 54 (0, 0)) := by rw [hW5]; exact heap_alloc_new w2 _
      have hs5 := HIN.out.1.1.new_ext hx5.drew
      have hS : ∀ W, Ext (fun _ => False) W5.drew W → W.cell? ⟨w1.heap.size + 1, 1, none⟩ = some (.map (some w1.heap.size)) ∧ W.cell? ⟨w2.heap.size, 0, none⟩ = some (.string ⟨k.toArray⟩) ∧ W.cell? ⟨w2.heap.size, 1, none⟩ = some (.string ⟨x.toArray⟩) ∧ W.cell? ⟨w2.heap.size, 2, none⟩ = some (.bool g') := by
        intro W hx
        have a1 := (hx.block _ hs5.lt.1 id).trans hs5.st
        have a2 := (hx.block _ (lt_of_heap hb5) id).trans hb5
        refine ⟨?_, ?_, ?_, ?_⟩
        · rw [cell_of_block a1]; rfl
        all_goals (rw [cell_of_block a2]; rfl)
      have hS0 := hS _ (Ext.refl _ _)
      have hS1 := hS _ ((Ext.refl _ _).alloc (.cells #[.string ⟨k.toArray⟩, .string ⟨x.toArray⟩, .bool g'] 54))
      have HG : Hid (Calls Tryz.prog 52 #[.map (some w1.heap.size), .slice (some ⟨W5.heap.size, 0, none⟩) 1 1] (W5.drew.alloc (.cells #[.string ⟨k.toArray⟩, .string ⟨x.toArray⟩, .bool g'] 54)) fun e w' => e = .returned (.tuple #[]) ∧
          Hid (Sto w0 w' (w1.heap.size + 1) w1.heap.size lp um p g m s l (chg [] (ps.take (j + 1))) ∧ Recs w' g (.slice (some ⟨bk, off, none⟩) n vc) (ps.map recP) ∧ Below w.heap.size w w')) := by
        obtain ⟨⟨t1, t2, t3⟩, hq, hkl, hxl⟩ := HIN.out
        obtain ⟨W6, hW6⟩ : ∃ W6, W6 = W5.drew.alloc (.cells #[.string ⟨k.toArray⟩, .string ⟨x.toArray⟩, .bool g'] 54) := ⟨_, rfl⟩
        have hx6 : Ext (fun _ => False) wr W6 := by rw [hW6]; exact hx5.drew.alloc _
        have hs6 := t1.new_ext hx6
        have hr6 := t2.new_ext hx6
        have hrd : Rd W6 54 3 (.slice (some ⟨W5.heap.size, 0, none⟩) 1 1) 1 (spcells [(k, x, g')]) := by
          rw [hW6]
          exact ⟨rfl, by simp [maxLen], 1, .inr ⟨W5.heap.size, 0, rfl, Nat.le_refl _, .inr ⟨_, (0, 0), heap_alloc_new W5.drew _, rfl⟩⟩⟩
        rw [← hW6]
        refine (change_any hrd hs6.mp (by intro q hq'; rw [List.mem_singleton.1 hq']; simp only; omega) (by have := chg_length [] (ps.take j); rw [List.length_take] at this; simp at this; omega)).mono ?_
        rintro e w' ⟨rfl, q1, q2⟩
        have hct : chg (chg [] (ps.take j)) [(k, x, g')] = chg [] (ps.take (j + 1)) := (chg_take [] ps j _ hq).symm
        rw [hct] at q1
        have hap := hs6.apart
        have hkt : ∀ e, KeepT e W6 w' := fun e => q2.keepT (by rintro k' cur fr hq' rfl; exact MapL.noCells hs6.mp _ _ _ hq')
        obtain ⟨cs, c1, c2⟩ := hr6
        have hb6 := t3.size
        have hbw : w.heap.size ≤ w1.heap.size := H1.out.2.2.1.size
        have hsz6 := hx6.size
        refine ⟨rfl, ⟨hs6.sys.past5 q2 (by omega) (hkt _) (fun k' q => by subst q; exact hs6.new.2), (q2.block _ hs6.lt.1 (by omega)).trans hs6.st, q1, hs6.new, hs6.ne⟩, ⟨cs, own_keep c1 (hkt _), c2.kept (hkt _)⟩, ?_⟩
        exact (t3.trans ((hx6.below (fun _ _ h => h) (Nat.le_refl _)).mono hb6)).trans (q2.below (B := w.heap.size) (fun i hi q => by omega) (by omega))
      have HW5 := Lib.hid hW5
      clear hW5 hS hs5 hb5
      go_wp2_with fail
      rw [← HW5.out]
      refine region_X (fun W => W.cell? ⟨w1.heap.size + 1, 1, none⟩ = some (.map (some w1.heap.size)) ∧ W.cell? ⟨w2.heap.size, 0, none⟩ = some (.string ⟨k.toArray⟩) ∧ W.cell? ⟨w2.heap.size, 1, none⟩ = some (.string ⟨x.toArray⟩) ∧ W.cell? ⟨w2.heap.size, 2, none⟩ = some (.bool g')) (by kernel_rfl) ?_
      simp only [List.length_cons, List.length_nil, Nat.reduceAdd]
      refine AnyX.take 0 rfl (by kernel_rfl) (fun _ _ _ h => h) hS0 rfl (by rintro W ⟨s0, s1, s2, s3⟩; go_simp; rfl) ?_; simp only [Act.put, List.setIfInBounds_toArray, List.set_cons_succ, List.set_cons_zero]
      refine AnyX.take 1 rfl (by kernel_rfl) (fun _ _ _ h => h) hS0 rfl (by rintro W ⟨s0, s1, s2, s3⟩; go_simp; rfl) ?_; simp only [Act.put, List.setIfInBounds_toArray, List.set_cons_succ, List.set_cons_zero]
      refine AnyX.take 2 rfl (by kernel_rfl) (fun _ _ _ h => h) hS0 rfl (by rintro W ⟨s0, s1, s2, s3⟩; go_simp; rfl) ?_; simp only [Act.put, List.setIfInBounds_toArray, List.set_cons_succ, List.set_cons_zero]
      refine AnyX.take 3 rfl (by kernel_rfl) (fun _ _ _ h => h) hS0 rfl (by rintro W ⟨s0, s1, s2, s3⟩; go_simp; rfl) ?_; simp only [Act.put, List.setIfInBounds_toArray, List.set_cons_succ, List.set_cons_zero]
      refine AnyX.take 4 rfl (by kernel_rfl) (fun _ _ _ h => h) hS0 rfl (by rintro W ⟨s0, s1, s2, s3⟩; go_simp; rfl) ?_; simp only [Act.put, List.setIfInBounds_toArray, List.set_cons_succ, List.set_cons_zero]
      refine AnyX.act 5 rfl (by kernel_rfl) rfl (fun K hK => ?_)
      go_wp2_with (fail)
      refine hK _ _ hS1 ?_
      clear hK K
      refine AnyX.end_ 6 rfl (by kernel_rfl) (by kernel_rfl) (by kernel_rfl) rfl ?_
      go_wp2_with fail
      refine HG.out.mono ?_
      rintro e w7 ⟨rfl, H7⟩
      go_wp2_with fail
      exact ⟨⟨j + 1, by omega, by go_num, H7⟩, by simp [intOf]; omega⟩
    · obtain rfl : j = n := by omega
      go_wp2_with fail
      go_ret2
      obtain ⟨q1, q2, q3⟩ := hin.out
      rw [List.take_of_length_le (by have := H.out.2.2; omega)] at q1
      have := H1.out.2.2.1.size
      exact ⟨_, _, lp, um, rfl, q1, q3, by omega, by omega⟩

end Go.Proofs.YtekolejeliefdaaGreat
