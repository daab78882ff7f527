/- The disk: New. -/
import Derived.Test.YtekolejeliefdaaGreatDiskD
set_option linter.unusedVariables false
set_option linter.unusedSimpArgs false
namespace Go.Proofs.YtekolejeliefdaaGreat
open Go.RowKit

def DS.new (n size : Int) : DS := { size := (min (max size 64) 4096).toNat, sure := List.replicate (min (max n 1) 4096).toNat (List.replicate (min (max size 64) 4096).toNat 0), dirty := [], cut := -1, dead := false }

theorem u8s_replicate (m : Nat) : u8s (List.replicate m 0) = List.replicate m (.int .u8 0) := by simp [u8s, u8]

/-- The disk that New makes, j sectors laid. -/
structure NewInv (w : World) (Z j : Nat) (sv : Value) (wr : World) : Prop where
  blk : wr.heap[w.heap.size + 1]? = some (.cells #[sv, .map (some w.heap.size), .int .i64 (-1), .bool false] 112 (0, 0))
  row : ∃ vs, wr.ownsRow w.heap.size 114 1 sv j vs ∧ ∀ v ∈ vs, RdX (· < w.heap.size) wr 5 1 v Z (u8s (List.replicate Z 0))
  map : MapL Tryz.prog 3 wr w.heap.size []
  below : Below w.heap.size w wr

theorem NewInv.step {w wr : World} {Z j : Nat} {sv : Value} (h : NewInv w Z j sv wr) (hZ : Z ≤ 4096) :
    Rd (((wr.alloc (.cells (madeCells #[.int .u8 0] Z) 5)).alloc (.cells #[.slice (some ⟨wr.heap.size, 0, none⟩) Z Z] 114)).drew) 114 1 (.slice (some ⟨wr.heap.size + 1, 0, none⟩) 1 1) 1 [.slice (some ⟨wr.heap.size, 0, none⟩) Z Z] ∧
    ∃ vs, (((wr.alloc (.cells (madeCells #[.int .u8 0] Z) 5)).alloc (.cells #[.slice (some ⟨wr.heap.size, 0, none⟩) Z Z] 114)).drew).ownsRow w.heap.size 114 1 sv j vs ∧
    ∀ v1 W1, W1.ownsRow w.heap.size 114 1 v1 (j + 1) (vs ++ [.slice (some ⟨wr.heap.size, 0, none⟩) Z Z]) → (((wr.alloc (.cells (madeCells #[.int .u8 0] Z) 5)).alloc (.cells #[.slice (some ⟨wr.heap.size, 0, none⟩) Z Z] 114)).drew).grownBy W1 sv.ownBlock →
      ∃ g c, v1 = .slice (some ⟨g, 0, none⟩) (j + 1) c ∧ W1.cell? ⟨w.heap.size + 1, 0, none⟩ = some sv ∧ W1.frozen? ⟨w.heap.size + 1, 0, none⟩ = false ∧ Hid (NewInv w Z (j + 1) v1 (W1.setCell ⟨w.heap.size + 1, 0, none⟩ v1)) := by
  obtain ⟨hb, ⟨vs, ho, hv⟩, hm, hbl⟩ := h
  have hsz := hbl.size
  have hlt := lt_of_heap hb
  have n2 := heap_alloc_new (wr.alloc (.cells (madeCells #[.int .u8 0] Z) 5)) (.cells #[.slice (some ⟨wr.heap.size, 0, none⟩) Z Z] 114)
  have n1 : ((wr.alloc (.cells (madeCells #[.int .u8 0] Z) 5)).alloc (.cells #[.slice (some ⟨wr.heap.size, 0, none⟩) Z Z] 114)).heap[wr.heap.size]? = some (.cells (madeCells #[.int .u8 0] Z) 5) := by
    rw [heap_alloc_lt (by simp)]
    exact heap_alloc_new wr _
  have hx : Ext (fun _ => False) wr ((wr.alloc (.cells (madeCells #[.int .u8 0] Z) 5)).alloc (.cells #[.slice (some ⟨wr.heap.size, 0, none⟩) Z Z] 114)).drew := (((Ext.refl _ wr).alloc _).alloc _).drew
  have hsz2 : ((wr.alloc (.cells (madeCells #[.int .u8 0] Z) 5)).alloc (.cells #[.slice (some ⟨wr.heap.size, 0, none⟩) Z Z] 114)).drew.heap.size = wr.heap.size + 1 + 1 := by
    show ((wr.alloc _).alloc _).heap.size = _
    simp
  simp only [World.size_alloc] at n2
  have hown := own_keep ho (hx.keepT (fun _ _ _ _ => id))
  generalize ((wr.alloc (.cells (madeCells #[.int .u8 0] Z) 5)).alloc (.cells #[.slice (some ⟨wr.heap.size, 0, none⟩) Z Z] 114)) = W at *
  have b1 : W.drew.heap[w.heap.size + 1]? = some (.cells #[sv, .map (some w.heap.size), .int .i64 (-1), .bool false] 112 (0, 0)) := (hx.block _ hlt id).trans hb
  have m1 := hm.kept (w1 := W.drew) (hx.block _ hm.lt id)
  refine ⟨⟨rfl, by simp [maxLen], 1, .inr ⟨_, 0, rfl, Nat.le_refl _, .inr ⟨_, (0, 0), n2, rfl⟩⟩⟩, vs, hown, fun v1 W1 h1 h2 => ?_⟩
  have hnb : ∀ (b : Nat) (cur : Array Value) (e : TypeId) (fr : Nat × Nat), W.drew.heap[b]? = some (Obj.cells cur e fr) → e ≠ 114 → W1.heap[b]? = some (Obj.cells cur e fr) := by
    intro b cur e fr hq hne
    refine (h2.block b (lt_of_heap hq) ?_).trans hq
    intro e1
    rcases hown.2 with ⟨rfl, _⟩ | ⟨g, cap, cc, rfl, _, hg, _⟩
    · simp [Value.ownBlock] at e1
    · simp only [Value.ownBlock, Option.some.injEq] at e1
      subst e1
      rw [hg] at hq
      simp only [Option.some.injEq, Obj.cells.injEq] at hq
      exact hne hq.2.1.symm
  have bW := hnb _ _ _ _ b1 (by decide)
  have hm1 : MapL Tryz.prog 3 W1 w.heap.size [] := by
    refine m1.kept (h2.block _ m1.lt ?_)
    intro e1
    rcases hown.2 with ⟨rfl, _⟩ | ⟨g, cap, cc, rfl, _, hg, _⟩
    · simp [Value.ownBlock] at e1
    · simp only [Value.ownBlock, Option.some.injEq] at e1
      subst e1
      exact m1.noCells _ _ _ hg
  obtain ⟨g, c, rfl, hgb, hgl⟩ := h1.form (by omega)
  have hgg : W1.heap[w.heap.size + 1]? ≠ none := by rw [bW]; simp
  refine ⟨g, c, rfl, by rw [cell_of_block bW]; rfl, free_of_block bW _, ?_⟩
  have hk5 : KeepT 5 wr (W1.setCell ⟨w.heap.size + 1, 0, none⟩ (.slice (some ⟨g, 0, none⟩) (j + 1) c)) := by
    intro b cur fr hq
    rw [heap_setCell_ne (by rintro rfl; rw [hb] at hq; simp at hq)]
    exact hnb _ _ _ _ ((hx.block _ (lt_of_heap hq) id).trans hq) (by decide)
  refine ⟨heap_setCell_at bW _, ⟨_, own_keep h1 ?_, ?_⟩, hm1.kept (heap_setCell_ne (by simp) _), ?_⟩
  · intro b cur fr hq
    rw [heap_setCell_ne (by rintro rfl; rw [bW] at hq; simp at hq)]
    exact hq
  · intro v hv'
    rcases List.mem_append.1 hv' with hv' | hv'
    · exact (hv v hv').kept hk5
    · obtain rfl := List.mem_singleton.1 hv'
      refine ⟨⟨by simp [u8s], by simp [maxLen]; omega, Z, .inr ⟨wr.heap.size, 0, rfl, Nat.le_refl _, .inr ⟨madeCells #[.int .u8 0] Z, (0, 0), ?_, ?_⟩⟩⟩, by rintro b off n c e1 hb; simp only [Value.slice.injEq, Option.some.injEq, Addr.mk.injEq] at e1; omega⟩
      · rw [heap_setCell_ne (by simp only; omega)]
        exact hnb _ _ _ _ (show W.drew.heap[wr.heap.size]? = _ from n1) (by decide)
      · rw [List.drop_zero, madeCells_one, u8s_replicate, List.take_of_length_le (by simp)]
  · have q1 : Below w.heap.size w W.drew := hbl.trans ⟨hx.os, hx.tape, hx.output, hx.size, fun k hk => hx.block k (by omega) id⟩
    exact (q1.grown h2 (by rw [hsz2]; omega) (fun k hk => (hown.lt k hk).1)).setCell (Nat.le_succ _) _

set_option maxRecDepth 100000 in
set_option maxHeartbeats 2000000 in
theorem new_any (n size : Int) (w : World) : Calls Tryz.prog 18 #[.int .i64 n, .int .i64 size] w fun e w' =>
    ∃ p g m, e = .returned (.pointer (some ⟨p, 0, none⟩)) ∧ w.heap.size ≤ p ∧ w.heap.size ≤ g ∧ w.heap.size ≤ m ∧ DiskAt (· < w.heap.size) w' p g m (DS.new n size) ∧ Below w.heap.size w w' := by
  obtain ⟨N, hN⟩ : ∃ N : Nat, (min (max n 1) 4096).toNat = N := ⟨_, rfl⟩
  obtain ⟨Z, hZ⟩ : ∃ Z : Nat, (min (max size 64) 4096).toNat = Z := ⟨_, rfl⟩
  have hN2 : min (max n 1) 4096 = (N : Int) := by omega
  have hZ2 : min (max size 64) 4096 = (Z : Int) := by omega
  have hN3 : 1 ≤ N ∧ N ≤ 4096 := by omega
  have hZ3 : 64 ≤ Z ∧ Z ≤ 4096 := by omega
  have e0 : DS.new n size = { size := Z, sure := List.replicate N (List.replicate Z 0), dirty := [], cut := -1, dead := false } := by simp only [DS.new, hN, hZ]
  rw [e0]
  have hw1 : Calls Tryz.prog 49 #[.int .i64 n, .int .i64 1, .int .i64 4096] ((w.alloc (.map #[] 0)).alloc (.cells #[.slice none 0 0, .map (some w.heap.size), .int .i64 (-1), .bool false] 112)) fun e w' => e = .returned (.int .i64 N) ∧ (w.alloc (.map #[] 0)).alloc (.cells #[.slice none 0 0, .map (some w.heap.size), .int .i64 (-1), .bool false] 112) = w' := by rw [← hN2]; exact within_any _ _ _ _
  have HW1 := Lib.hid hw1
  have hw2 : ∀ W, Calls Tryz.prog 49 #[.int .i64 size, .int .i64 64, .int .i64 4096] W fun e w' => e = .returned (.int .i64 Z) ∧ W = w' := fun W => by rw [← hZ2]; exact within_any _ _ _ W
  have HW2 := Lib.hid hw2
  have hmm := @run_makeMap Tryz.prog
  have hmk : ∀ W : World, (Instr.makeSlice 114 (.int .i64 (Z : Int)) (.int .i64 (Z : Int))).run Tryz.prog W = .ok (.slice (some ⟨W.heap.size, 0, none⟩) Z Z) (W.alloc (.cells (madeCells #[.int .u8 0] Z) 5)) :=
    fun W => run_make_row' 114 5 (.int .u8 0) 1 Tryz.underlying114 (by kernel_rfl) rfl .i64 .i64 Z (by omega) (by omega) W
  clear hw1 hw2 hN hZ hN2 hZ2 e0
  go_enter Tryz.func18, Tryz.ntmps18
  go_wp2_with (go_at_call 49; refine HW1.out.mono ?_; rintro e w' ⟨rfl, rfl⟩)
  have hin0 : NewInv w Z 0 (.slice none 0 0) ((w.alloc (.map #[] 0)).alloc (.cells #[.slice none 0 0, .map (some w.heap.size), .int .i64 (-1), .bool false] 112)) := by
    refine ⟨?_, ⟨[], World.ownsRow_nil _ _ _ _, by simp⟩, ?_, ((Below.refl _ w).alloc (Nat.le_refl _) _).alloc (by simp) _⟩
    · have h0 := heap_alloc_new (w.alloc (.map #[] 0)) (.cells #[.slice none 0 0, .map (some w.heap.size), .int .i64 (-1), .bool false] 112)
      simp only [World.size_alloc] at h0
      exact h0
    · exact (MapL.made w Tryz.prog 3).kept (heap_alloc_lt (by simp))
  have HI0 := Lib.hid hin0
  clear hin0
  go_loopw [12] (fun t wr => ∃ j : Nat, j ≤ N ∧ t = .int .i64 j ∧ Hid (∃ sv, NewInv w Z j sv wr)) (fun t _ => N - (intOf t).toNat)
  case atStart => exact ⟨0, Nat.zero_le _, rfl, _, HI0.out⟩
  case round =>
    obtain ⟨j, hj, rfl, hin⟩ := hrel
    obtain ⟨sv, hI⟩ := hin.out
    by_cases hlt : j < N
    · have hsz := hI.below.size
      obtain ⟨hr, vs, ho, hnext⟩ := hI.step hZ3.2
      have HR := Lib.hid hr
      have HO := Lib.hid ho
      have HN := Lib.hid hnext
      have hS0 : wr.drew.cell? ⟨w.heap.size + 1, 0, none⟩ = some sv := by rw [cell_of_block (w := wr.drew) hI.blk]; rfl
      have hS1 : ((wr.alloc (.cells (madeCells #[.int .u8 0] Z) 5)).drew).cell? ⟨w.heap.size + 1, 0, none⟩ = some sv := by
        rw [cell_of_block (w := (wr.alloc (.cells (madeCells #[.int .u8 0] Z) 5)).drew) ((heap_alloc_lt (lt_of_heap hI.blk)).trans hI.blk)]; rfl
      have hS2 : (((wr.alloc (.cells (madeCells #[.int .u8 0] Z) 5)).alloc (.cells #[.slice (some ⟨wr.heap.size, 0, none⟩) Z Z] 114)).drew).cell? ⟨w.heap.size + 1, 0, none⟩ = some sv := by
        have hlt := lt_of_heap hI.blk
        rw [cell_of_block (w := ((wr.alloc (.cells (madeCells #[.int .u8 0] Z) 5)).alloc (.cells #[.slice (some ⟨wr.heap.size, 0, none⟩) Z Z] 114)).drew) ((heap_alloc_lt (by simp; omega)).trans ((heap_alloc_lt hlt).trans hI.blk))]; rfl
      have hbase : w.heap.size ≤ (((wr.alloc (.cells (madeCells #[.int .u8 0] Z) 5)).alloc (.cells #[.slice (some ⟨wr.heap.size, 0, none⟩) Z Z] 114)).drew).heap.size := by
        show _ ≤ ((wr.alloc _).alloc _).heap.size
        simp
        omega
      have hvl : vs.length = j := by have := ho.1; omega
      clear hr ho hnext hI hin HI0
      go_wp2_with fail
      refine region_X (fun W => W.cell? ⟨w.heap.size + 1, 0, none⟩ = some sv) (by kernel_rfl) ?_
      simp only [List.length_cons, List.length_nil, Nat.reduceAdd]
      refine AnyX.take 0 rfl (by kernel_rfl) (fun _ _ _ h => h) hS0 rfl (by intro W hW; go_simp; rfl) ?_; simp only [Act.put, List.setIfInBounds_toArray, List.set_cons_succ, List.set_cons_zero]
      refine AnyX.take 1 rfl (by kernel_rfl) (fun _ _ _ h => h) hS0 rfl (by intro W hW; go_simp; rfl) ?_; simp only [Act.put, List.setIfInBounds_toArray, List.set_cons_succ, List.set_cons_zero]
      refine AnyX.take 2 rfl (by kernel_rfl) (fun _ _ _ h => h) hS0 rfl (by intro W hW; go_simp; rfl) ?_; simp only [Act.put, List.setIfInBounds_toArray, List.set_cons_succ, List.set_cons_zero]
      refine AnyX.take 3 rfl (by kernel_rfl) (fun _ _ _ h => h) hS0 rfl (by intro W hW; go_simp; rfl) ?_; simp only [Act.put, List.setIfInBounds_toArray, List.set_cons_succ, List.set_cons_zero]
      refine AnyX.take 4 rfl (by kernel_rfl) (fun _ _ _ h => h) hS0 rfl (by intro W hW; go_simp; rfl) ?_; simp only [Act.put, List.setIfInBounds_toArray, List.set_cons_succ, List.set_cons_zero]
      refine AnyX.take 5 rfl (by kernel_rfl) (fun _ _ _ h => h) hS0 rfl (by intro W hW; go_simp; rfl) ?_; simp only [Act.put, List.setIfInBounds_toArray, List.set_cons_succ, List.set_cons_zero]
      refine AnyX.take 6 rfl (by kernel_rfl) (fun _ _ _ h => h) hS0 rfl (by intro W hW; go_simp; rfl) ?_; simp only [Act.put, List.setIfInBounds_toArray, List.set_cons_succ, List.set_cons_zero]
      refine AnyX.act 7 rfl (by kernel_rfl) rfl (fun K hK => ?_)
      go_wp2_with (go_at_call 49; refine (HW2.out _).mono ?_; rintro e w' ⟨rfl, rfl⟩)
      refine hK _ _ hS0 ?_
      clear hK K
      refine AnyX.act 8 rfl (by kernel_rfl) rfl (fun K hK => ?_)
      go_wp2
      refine hK _ _ hS1 ?_
      clear hK K
      refine AnyX.act 9 rfl (by kernel_rfl) rfl (fun K hK => ?_)
      go_wp2
      refine hK _ _ hS2 ?_
      clear hK K
      refine AnyX.act 10 rfl (by kernel_rfl) rfl (fun K hK => ?_)
      refine wp_app (.tmp 19) (.tmp 23) 108 rfl w.heap.size 114 1 24 (.slice none 0 0) Tryz.underlying108 (by kernel_rfl) rfl (by omega) sv j vs rfl HO.out _ 1 _ 114 rfl HR.out (by simp [Value.oneCell']) (by simp only [maxLen]; omega) (by omega) hbase (fun v1 W1 q1 q2 _ => ?_)
      obtain ⟨g, c, rfl, cW, fW, hfin⟩ := HN.out v1 W1 q1 q2
      refine hK _ _ cW ?_
      clear hK K q1 q2 hbase hS0 hS1 hS2
      refine AnyX.take 11 rfl (by kernel_rfl) (fun _ _ _ h => h) cW rfl (by intro W hW; go_simp; rfl) ?_; simp only [Act.put, List.setIfInBounds_toArray, List.set_cons_succ, List.set_cons_zero]
      refine AnyX.take 12 rfl (by kernel_rfl) (fun _ _ _ h => h) cW rfl (by intro W hW; go_simp; rfl) ?_; simp only [Act.put, List.setIfInBounds_toArray, List.set_cons_succ, List.set_cons_zero]
      refine AnyX.take 13 rfl (by kernel_rfl) (fun _ _ _ h => h) cW rfl (by intro W hW; go_simp; rfl) ?_; simp only [Act.put, List.setIfInBounds_toArray, List.set_cons_succ, List.set_cons_zero]
      refine AnyX.end_ 14 rfl (by kernel_rfl) (by kernel_rfl) (by kernel_rfl) rfl ?_
      go_wp2
      go_roundw
      case rel => exact ⟨j + 1, by omega, by go_num, ⟨_, hfin.out⟩⟩
      case measure => simp [intOf]; omega
    · obtain rfl : j = N := by omega
      obtain ⟨hb, ⟨vs, ho, hv⟩, hm, hbl⟩ := hI
      obtain ⟨g, c, rfl, hgb, hgl⟩ := ho.form (by omega)
      have hfin : DiskAt (· < w.heap.size) wr (w.heap.size + 1) g w.heap.size { size := Z, sure := List.replicate j (List.replicate Z 0), dirty := [], cut := -1, dead := false } := by
        refine ⟨⟨by simpa using hN3.1, by simpa using hN3.2, hZ3.1, hZ3.2, fun x hx => ?_, by simp, List.Pairwise.nil, by simp, by simp⟩, ?_, ⟨[], hm, trivial⟩, fun k hk => Nat.lt_of_lt_of_le hk hbl.size, by simp; omega⟩
        · rw [(List.mem_replicate.1 hx).2]
          simp
        · obtain ⟨hvl, h1 | ⟨g', cap, cur, e1, _, hg, c1, c2, c3, c4⟩⟩ := ho
          · simp at h1
          · simp only [Value.slice.injEq, Option.some.injEq, Addr.mk.injEq, and_true, true_and] at e1
            obtain ⟨rfl, rfl⟩ := e1
            refine ⟨_, hb, c, cur, by simp, hg, by simpa using c1, c2, by simpa using c3, fun i x hx => ?_⟩
            simp only [List.getElem?_replicate] at hx
            split at hx
            · rename_i hi
              cases hx
              have hiv : i < vs.length := by omega
              refine ⟨vs[i], ?_, hv _ (List.getElem_mem _)⟩
              have h2 : cur.toList[i]? = vs[i]? := by rw [← c4, List.getElem?_take_of_lt (by omega)]
              rw [Array.getElem?_toList] at h2
              rw [h2, List.getElem?_eq_getElem hiv]
            · cases hx
      have HF := Lib.hid (And.intro hfin hbl)
      clear hfin hb ho hv hm hbl hin
      go_wp2
      go_ret
      exact ⟨_, g, _, rfl, Nat.le_succ _, hgb, Nat.le_refl _, HF.out.1, HF.out.2⟩
end Go.Proofs.YtekolejeliefdaaGreat
