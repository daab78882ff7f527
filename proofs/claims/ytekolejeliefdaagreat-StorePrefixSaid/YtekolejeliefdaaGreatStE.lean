/- A record read as a pair. -/
import Derived.Test.YtekolejeliefdaaGreatStD
set_option linter.unusedVariables false
set_option linter.unusedSimpArgs false
namespace Go.Proofs.YtekolejeliefdaaGreat
open Go.RowKit

theorem newReader_any {w : World} {v : Value} {bs : List UInt8} (h : Rd w 5 1 v bs.length (u8s bs)) (hl : bs.length ≤ 1073741824) :
    Calls Tryz.prog 88 #[v] w fun e w' => ∃ p, e = .returned (.pointer (some ⟨p, 0, none⟩)) ∧ w.heap.size ≤ p ∧ RAt w' p bs ∧ Ext (fun _ => False) w w' := by
  have hcl := cloneB_any h (u8s_oneCell bs) (by omega)
  have HC : Hid (Calls Tryz.prog 133 #[v] w fun e w' => ∃ a n c, e = .returned (.slice a n c) ∧ Hid (Rd w' 5 1 (.slice a n c) bs.length (u8s bs) ∧ Ext (fun _ => False) w w')) := by
    refine hcl.mono ?_
    rintro e w' ⟨u, rfl, h1, h2⟩
    obtain ⟨a, c, rfl⟩ := (Rd.of_own h1).form
    exact ⟨a, _, c, rfl, Rd.of_own h1, Ext.of_below h2 (Nat.le_refl _)⟩
  clear hcl h
  go_enter Tryz.func88, Tryz.ntmps88
  go_wp2_with (go_at_call 133; refine HC.out.mono ?_; rintro e w' ⟨a, n, c, rfl, H⟩)
  go_ret
  have hx := H.out.2.alloc (.cells #[.slice a n c, .bool false] 210)
  refine ⟨_, rfl, H.out.2.size, ⟨_, heap_alloc_new w' _, ?_⟩, hx⟩
  exact H.out.1.kept fun b cur fr hq => (heap_alloc_lt (lt_of_heap hq)).trans hq

theorem done_any {w : World} {p : Nat} (h : RAt w p []) :
    Calls Tryz.prog 91 #[.pointer (some ⟨p, 0, none⟩)] w fun e w' => e = .returned (.int .i64 0) ∧ w' = w := by
  obtain ⟨v, h1, h2⟩ := h.lay
  obtain ⟨a, c, rfl⟩ := h2.form
  have c0 := cell_of_block h1 0
  have c1 := cell_of_block h1 1
  simp at c0 c1
  clear h h1 h2
  go_enter Tryz.func91, Tryz.ntmps91
  go_wp2
  go_ret
  exact ⟨rfl, rfl⟩


/-- The value that a pair's record tells. -/
def pairV (k v : List UInt8) (g : Bool) : Value := .agg #[bstr k, bstr (if g then [] else v), .bool g]

theorem Ext.setRow {S : Nat → Prop} {w w1 : World} (h : Ext S w w1) {g : Nat} (hg : g < w.heap.size → S g) (cs : Array Value) : Ext S w (w1.setRow g cs) :=
  ⟨h.os, h.tape, h.output, by simpa using h.size, fun k hk hn => (setRow_other w1 g k cs (fun e => hn (e ▸ hg (e ▸ hk)))).trans (h.block k hk hn)⟩
theorem pair_ext0 {w W1 w2 w3 w4 : World} {p : Nat} (hp : w.heap.size + 1 ≤ p) (h1 : Ext (fun _ => False) w W1) (h2 : Ext (fun _ => False) W1 w2) (h3 : Ext (· = p) w2 w3) (h4 : Ext (· = p) w3 w4) :
    Ext (fun _ => False) w w4 :=
  ((h1.trans h2).andThen h3 (fun i hi hq => by omega)).andThen h4 (fun i hi hq => by omega)
theorem pair_ext {w W1 w2 w3 w4 W5 : World} {p : Nat} (hp : w.heap.size + 1 ≤ p) (h1 : Ext (fun _ => False) w W1) (h2 : Ext (fun _ => False) W1 w2) (h3 : Ext (· = p) w2 w3) (h4 : Ext (· = p) w3 w4) (h5 : Ext (fun _ => False) w4 W5) :
    Ext (fun _ => False) w W5.drew :=
  ((((h1.trans h2).andThen h3 (fun i hi hq => by omega)).andThen h4 (fun i hi hq => by omega)).trans h5).drew

set_option maxRecDepth 100000 in
set_option maxHeartbeats 2000000 in
theorem pair_any {w : World} {u : Value} {k v : List UInt8} {g : Bool} (h : Rd w 5 1 u (pairF k v g).length (u8s (pairF k v g))) (hk : k.length ≤ 1000000) (hv : v.length ≤ 1000000) :
    Calls Tryz.prog 51 #[u] w fun e w' => e = .returned (.tuple #[pairV k v g, .bool true]) ∧ Ext (fun _ => False) w w' := by
  obtain ⟨W1, hW1⟩ : ∃ W1, W1 = w.alloc (.cells #[.string ⟨#[]⟩, .string ⟨#[]⟩, .bool false] 54) := ⟨_, rfl⟩
  have hx0 : Ext (fun _ => False) w W1 := by rw [hW1]; exact (Ext.refl _ w).alloc _
  have hs1 : W1.heap.size = w.heap.size + 1 := by rw [hW1]; simp
  have hb1 : W1.heap[w.heap.size]? = some (.cells #[.string ⟨#[]⟩, .string ⟨#[]⟩, .bool false] 54 (0, 0)) := by rw [hW1]; exact heap_alloc_new w _
  have hlen : (pairF k v g).length ≤ 1073741824 := by
    have h10 := textF_le hk
    have h11 := textF_le hv
    unfold pairF
    cases g <;> simp [boolF_length] <;> omega
  have HN : Hid (Calls Tryz.prog 88 #[u] W1 fun e w' => ∃ p, e = .returned (.pointer (some ⟨p, 0, none⟩)) ∧ w.heap.size + 1 ≤ p ∧ Hid (RAt w' p (pairF k v g) ∧ Ext (fun _ => False) W1 w')) := by
    refine (newReader_any (h.kept fun b cur fr hb => (hx0.block b (lt_of_heap hb) id).trans hb) hlen).mono ?_
    rintro e w' ⟨p, rfl, h1, h2, h3⟩
    exact ⟨p, rfl, by omega, h2, h3⟩
  have HW := Lib.hid hW1
  have H1 := Lib.hid (And.intro hx0 (And.intro hs1 hb1))
  clear h hW1 hx0 hs1 hb1
  go_enter Tryz.func51, Tryz.ntmps51
  go_wp2_with fail
  rw [← HW.out]
  refine HN.out.mono ?_
  rintro e w2 ⟨p, rfl, hp, H2⟩
  have HB : Hid (Calls Tryz.prog 89 #[.pointer (some ⟨p, 0, none⟩)] w2 fun e w' => e = .returned (.bool g) ∧ Hid (RAt w' p (textF k ++ (if g then [] else textF v)) ∧ Ext (· = p) w2 w')) :=
    rBool_any (by have := H2.out.1; unfold pairF at this; rw [List.append_assoc] at this; exact this)
  go_wp2_with fail
  refine HB.out.mono ?_
  rintro e w3 ⟨rfl, H3⟩
  have HT : Hid (Calls Tryz.prog 90 #[.pointer (some ⟨p, 0, none⟩)] w3 fun e w' => e = .returned (bstr k) ∧ Hid (RAt w' p (if g then [] else textF v) ∧ Ext (· = p) w3 w')) :=
    rText_any H3.out.1 (by omega)
  go_wp2_with fail
  refine HT.out.mono ?_
  rintro e w4 ⟨rfl, H4⟩
  cases g with
  | true =>
    have HR : Hid (∀ W, Ext (fun _ => False) w4 W → RAt W p []) := fun W hx => by have := H4.out.1; simp at this; exact this.keep hx
    obtain ⟨W5, hW5⟩ : ∃ W5, W5 = (w4.alloc (.cells #[.string ⟨k.toArray⟩, .string ⟨#[]⟩, .bool true] 54)) := ⟨_, rfl⟩
    have hx5 : Ext (fun _ => False) w4 W5 := by rw [hW5]; exact (Ext.refl _ w4).alloc _
    have hb5 : W5.heap[w4.heap.size]? = some (.cells #[.string ⟨k.toArray⟩, .string ⟨#[]⟩, .bool true] 54 (0, 0)) := by rw [hW5]; exact heap_alloc_new w4 _
    have hS0 : W5.drew.cell? ⟨w4.heap.size, 0, none⟩ = some (.string ⟨k.toArray⟩) ∧ W5.drew.cell? ⟨w4.heap.size, 1, none⟩ = some (.string ⟨#[]⟩) ∧ W5.drew.cell? ⟨w4.heap.size, 2, none⟩ = some (.bool true) := by
      refine ⟨?_, ?_, ?_⟩ <;> rw [cell_of_block (show W5.drew.heap[w4.heap.size]? = _ from hb5)] <;> rfl
    have hbt : W5.drew.heap[w.heap.size]? = some (.cells #[.string ⟨#[]⟩, .string ⟨#[]⟩, .bool false] 54 (0, 0)) := by
      have e1 := H1.out.2.1
      have l2 := H2.out.2.size
      have l3 := H3.out.2.size
      have l4 := H4.out.2.size
      refine (hx5.drew.block _ (by omega) id).trans ?_
      rw [H4.out.2.block _ (by omega) (by omega), H3.out.2.block _ (by omega) (by omega), H2.out.2.block _ (by omega) id]
      exact H1.out.2.2
    have HBT := Lib.hid hbt
    have hS1 : (W5.drew.setRow w.heap.size #[.string ⟨k.toArray⟩, .string ⟨#[]⟩, .bool true]).cell? ⟨w4.heap.size, 0, none⟩ = some (.string ⟨k.toArray⟩) ∧ (W5.drew.setRow w.heap.size #[.string ⟨k.toArray⟩, .string ⟨#[]⟩, .bool true]).cell? ⟨w4.heap.size, 1, none⟩ = some (.string ⟨#[]⟩) ∧ (W5.drew.setRow w.heap.size #[.string ⟨k.toArray⟩, .string ⟨#[]⟩, .bool true]).cell? ⟨w4.heap.size, 2, none⟩ = some (.bool true) := by
      have e1 := H1.out.2.1
      have l2 := H2.out.2.size
      have l3 := H3.out.2.size
      have l4 := H4.out.2.size
      refine ⟨?_, ?_, ?_⟩ <;> rw [cell_setRow_other _ _ _ _ (by simp; omega)]
      · exact hS0.1
      · exact hS0.2.1
      · exact hS0.2.2
    have hr0 := cell_setRow_same W5.drew w.heap.size 0 _ #[.string ⟨k.toArray⟩, .string ⟨#[]⟩, .bool true] _ _ hbt
    have hr1 := cell_setRow_same W5.drew w.heap.size 1 _ #[.string ⟨k.toArray⟩, .string ⟨#[]⟩, .bool true] _ _ hbt
    have hr2 := cell_setRow_same W5.drew w.heap.size 2 _ #[.string ⟨k.toArray⟩, .string ⟨#[]⟩, .bool true] _ _ hbt
    simp only [List.getElem?_toArray, List.getElem?_cons_zero, List.getElem?_cons_succ] at hr0 hr1 hr2
    clear hbt
    have HD := Lib.hid (done_any (HR.out _ hx5.drew))
    have HW5 := Lib.hid hW5
    clear hW5
    go_wp2_with fail
    rw [← HW5.out]
    refine region_X (fun W => W.cell? ⟨w4.heap.size, 0, none⟩ = some (.string ⟨k.toArray⟩) ∧ W.cell? ⟨w4.heap.size, 1, none⟩ = some (.string ⟨#[]⟩) ∧ W.cell? ⟨w4.heap.size, 2, none⟩ = some (.bool true)) (by kernel_rfl) ?_
    simp only [List.length_cons, List.length_nil, Nat.reduceAdd]
    refine AnyX.take 0 rfl (by kernel_rfl) (fun _ _ _ h => h) hS0 rfl (by rintro W ⟨s0, s1, s2⟩; go_simp; rfl) ?_; simp only [Act.put, List.setIfInBounds_toArray, List.set_cons_succ, List.set_cons_zero]
    refine AnyX.take 1 rfl (by kernel_rfl) (fun _ _ _ h => h) hS0 rfl (by rintro W ⟨s0, s1, s2⟩; go_simp; rfl) ?_; simp only [Act.put, List.setIfInBounds_toArray, List.set_cons_succ, List.set_cons_zero]
    refine AnyX.act 2 rfl (by kernel_rfl) rfl (fun K hK => ?_)
    go_wp2_with ((refine HD.out.mono ?_; rintro e w' ⟨rfl, rfl⟩))
    refine hK _ _ hS0 ?_
    clear hK K
    refine AnyX.take 3 rfl (by kernel_rfl) (fun _ _ _ h => h) hS0 rfl (by rintro W ⟨s0, s1, s2⟩; go_simp; rfl) ?_; simp only [Act.put, List.setIfInBounds_toArray, List.set_cons_succ, List.set_cons_zero]
    refine AnyX.act 4 rfl (by kernel_rfl) rfl (fun K hK => ?_)
    refine wp_store_row 54 (.tmp 2) (.tmp 19) rfl w.heap.size #[.string ⟨k.toArray⟩, .string ⟨#[]⟩, .bool true] rfl rfl _ _ HBT.out (by kernel_rfl) rfl (by simp [Value.oneCell']) ?_
    refine hK _ _ hS1 ?_
    clear hK K
    refine AnyX.end_ 5 rfl (by kernel_rfl) (by kernel_rfl) (by kernel_rfl) rfl ?_
    go_wp2
    refine bodyPost_ret (v := .tuple #[pairV k v true, .bool true]) ?_ rfl ⟨rfl, ?_⟩
    · simp [results, Tryz.results51, go_sem, hr0, hr1, hr2, pairV]
    · exact (pair_ext hp H1.out.1 H2.out.2 H3.out.2 H4.out.2 hx5).setRow (by omega) _
  | false =>
    have h4 : RAt w4 p (textF v ++ []) := by have := H4.out.1; simp at this; simpa using this
    obtain ⟨V, hV⟩ : ∃ V, V = w4.alloc (.cells #[.string ⟨k.toArray⟩, .string ⟨#[]⟩, .bool false] 54) := ⟨_, rfl⟩
    have hxV : Ext (fun _ => False) w4 V := by rw [hV]; exact (Ext.refl _ w4).alloc _
    have hbV : V.heap[w4.heap.size]? = some (.cells #[.string ⟨k.toArray⟩, .string ⟨#[]⟩, .bool false] 54 (0, 0)) := by rw [hV]; exact heap_alloc_new w4 _
    have hpw : p < w4.heap.size := by obtain ⟨q, q1, _⟩ := h4.lay; exact lt_of_heap q1
    have HT2 : Hid (Calls Tryz.prog 90 #[.pointer (some ⟨p, 0, none⟩)] V fun e w' => e = .returned (bstr v) ∧ (∃ u, w'.cell? ⟨w4.heap.size, 1, none⟩ = some u) ∧ w'.frozen? ⟨w4.heap.size, 1, none⟩ = false ∧
        Hid (RAt (w'.setCell ⟨w4.heap.size, 1, none⟩ (.string ⟨v.toArray⟩)).drew p [] ∧ Ext (fun i => i = p ∨ i = w4.heap.size) w4 (w'.setCell ⟨w4.heap.size, 1, none⟩ (.string ⟨v.toArray⟩)) ∧ (w'.setCell ⟨w4.heap.size, 1, none⟩ (.string ⟨v.toArray⟩)).heap[w4.heap.size]? = some (.cells #[.string ⟨k.toArray⟩, .string ⟨v.toArray⟩, .bool false] 54 (0, 0)))) := by
      refine (rText_any (h4.keep hxV) (by omega)).mono ?_
      rintro e w' ⟨rfl, q1, q2⟩
      have hb' := (q2.block _ (lt_of_heap hbV) (by omega)).trans hbV
      refine ⟨rfl, ⟨.string ⟨#[]⟩, by rw [cell_of_block hb']; rfl⟩, free_of_block hb' 1, ?_, (((hxV.mono fun _ _ q => q.elim).trans (q2.mono fun _ _ q => .inl q)).setCell (fun _ => .inr rfl) _), heap_setCell_at (i := 1) hb' _⟩
      obtain ⟨r, r1, r2⟩ := q1.lay
      refine ⟨r, (heap_setCell_ne (by simp; omega) _).trans r1, r2.kept fun b' cur fr hq => ?_⟩
      refine (heap_setCell_ne (by rintro rfl; simp [hb'] at hq) _).trans hq
    have HV := Lib.hid hV
    have hcV := cell_of_block hbV 2
    simp only [List.getElem?_toArray, List.getElem?_cons_zero, List.getElem?_cons_succ] at hcV
    rw [hV] at hcV
    clear hV hbV hxV h4
    go_wp2_with fail
    rw [← HV.out]
    refine HT2.out.mono ?_
    rintro e w6 ⟨rfl, ⟨u6, hu6⟩, hf6, H6⟩
    obtain ⟨W5, hW5⟩ : ∃ W5, W5 = w6.setCell ⟨w4.heap.size, 1, none⟩ (.string ⟨v.toArray⟩) := ⟨_, rfl⟩
    rw [← hW5] at H6
    have hx5 := H6.out.2.1
    have hb5 := H6.out.2.2
    have HR := Lib.hid H6.out.1
    have hS0 : W5.drew.cell? ⟨w4.heap.size, 0, none⟩ = some (.string ⟨k.toArray⟩) ∧ W5.drew.cell? ⟨w4.heap.size, 1, none⟩ = some (.string ⟨v.toArray⟩) ∧ W5.drew.cell? ⟨w4.heap.size, 2, none⟩ = some (.bool false) := by
      refine ⟨?_, ?_, ?_⟩ <;> rw [cell_of_block (show W5.drew.heap[w4.heap.size]? = _ from hb5)] <;> rfl
    have hbt : W5.drew.heap[w.heap.size]? = some (.cells #[.string ⟨#[]⟩, .string ⟨#[]⟩, .bool false] 54 (0, 0)) := by
      have e1 := H1.out.2.1
      have l2 := H2.out.2.size
      have l3 := H3.out.2.size
      have l4 := H4.out.2.size
      refine (hx5.drew.block _ (by omega) (by omega)).trans ?_
      rw [H4.out.2.block _ (by omega) (by omega), H3.out.2.block _ (by omega) (by omega), H2.out.2.block _ (by omega) id]
      exact H1.out.2.2
    have HBT := Lib.hid hbt
    have hS1 : (W5.drew.setRow w.heap.size #[.string ⟨k.toArray⟩, .string ⟨v.toArray⟩, .bool false]).cell? ⟨w4.heap.size, 0, none⟩ = some (.string ⟨k.toArray⟩) ∧ (W5.drew.setRow w.heap.size #[.string ⟨k.toArray⟩, .string ⟨v.toArray⟩, .bool false]).cell? ⟨w4.heap.size, 1, none⟩ = some (.string ⟨v.toArray⟩) ∧ (W5.drew.setRow w.heap.size #[.string ⟨k.toArray⟩, .string ⟨v.toArray⟩, .bool false]).cell? ⟨w4.heap.size, 2, none⟩ = some (.bool false) := by
      have e1 := H1.out.2.1
      have l2 := H2.out.2.size
      have l3 := H3.out.2.size
      have l4 := H4.out.2.size
      refine ⟨?_, ?_, ?_⟩ <;> rw [cell_setRow_other _ _ _ _ (by simp; omega)]
      · exact hS0.1
      · exact hS0.2.1
      · exact hS0.2.2
    have hr0 := cell_setRow_same W5.drew w.heap.size 0 _ #[.string ⟨k.toArray⟩, .string ⟨v.toArray⟩, .bool false] _ _ hbt
    have hr1 := cell_setRow_same W5.drew w.heap.size 1 _ #[.string ⟨k.toArray⟩, .string ⟨v.toArray⟩, .bool false] _ _ hbt
    have hr2 := cell_setRow_same W5.drew w.heap.size 2 _ #[.string ⟨k.toArray⟩, .string ⟨v.toArray⟩, .bool false] _ _ hbt
    simp only [List.getElem?_toArray, List.getElem?_cons_zero, List.getElem?_cons_succ] at hr0 hr1 hr2
    clear hbt
    have HD := Lib.hid (done_any HR.out)
    have HW5 := Lib.hid hW5
    clear hW5
    go_wp2_with fail
    rw [← HW5.out]
    refine region_X (fun W => W.cell? ⟨w4.heap.size, 0, none⟩ = some (.string ⟨k.toArray⟩) ∧ W.cell? ⟨w4.heap.size, 1, none⟩ = some (.string ⟨v.toArray⟩) ∧ W.cell? ⟨w4.heap.size, 2, none⟩ = some (.bool false)) (by kernel_rfl) ?_
    simp only [List.length_cons, List.length_nil, Nat.reduceAdd]
    refine AnyX.take 0 rfl (by kernel_rfl) (fun _ _ _ h => h) hS0 rfl (by rintro W ⟨s0, s1, s2⟩; go_simp; rfl) ?_; simp only [Act.put, List.setIfInBounds_toArray, List.set_cons_succ, List.set_cons_zero]
    refine AnyX.take 1 rfl (by kernel_rfl) (fun _ _ _ h => h) hS0 rfl (by rintro W ⟨s0, s1, s2⟩; go_simp; rfl) ?_; simp only [Act.put, List.setIfInBounds_toArray, List.set_cons_succ, List.set_cons_zero]
    refine AnyX.act 2 rfl (by kernel_rfl) rfl (fun K hK => ?_)
    go_wp2_with ((refine HD.out.mono ?_; rintro e w' ⟨rfl, rfl⟩))
    refine hK _ _ hS0 ?_
    clear hK K
    refine AnyX.take 3 rfl (by kernel_rfl) (fun _ _ _ h => h) hS0 rfl (by rintro W ⟨s0, s1, s2⟩; go_simp; rfl) ?_; simp only [Act.put, List.setIfInBounds_toArray, List.set_cons_succ, List.set_cons_zero]
    refine AnyX.act 4 rfl (by kernel_rfl) rfl (fun K hK => ?_)
    refine wp_store_row 54 (.tmp 2) (.tmp 19) rfl w.heap.size #[.string ⟨k.toArray⟩, .string ⟨v.toArray⟩, .bool false] rfl rfl _ _ HBT.out (by kernel_rfl) rfl (by simp [Value.oneCell']) ?_
    refine hK _ _ hS1 ?_
    clear hK K
    refine AnyX.end_ 5 rfl (by kernel_rfl) (by kernel_rfl) (by kernel_rfl) rfl ?_
    go_wp2
    refine bodyPost_ret (v := .tuple #[pairV k v false, .bool true]) ?_ rfl ⟨rfl, ?_⟩
    · simp [results, Tryz.results51, go_sem, hr0, hr1, hr2, pairV]
    · exact ((pair_ext0 hp H1.out.1 H2.out.2 H3.out.2 H4.out.2).andThen hx5.drew (fun i hi hq => by have := H1.out.2.1; have := H2.out.2.size; have := H3.out.2.size; have := H4.out.2.size; omega)).setRow (by omega) _

end Go.Proofs.YtekolejeliefdaaGreat
