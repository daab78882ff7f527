/- A pair's record. -/
import Derived.Test.YtekolejeliefdaaGreatStA
set_option linter.unusedVariables false
set_option linter.unusedSimpArgs false
namespace Go.Proofs.YtekolejeliefdaaGreat
open Go.RowKit

/-- A pair's record: is it gone, its key, its value unless it is gone. -/
def pairF (k v : List UInt8) (g : Bool) : List UInt8 := boolF g ++ textF k ++ (if g then [] else textF v)

theorem WAt.ext {B p : Nat} {w w1 : World} {bs : List UInt8} (h : WAt B w p bs) (hx : Ext (fun _ => False) w w1) : WAt B w1 p bs := by
  obtain ⟨⟨v, h1, h2⟩, h3⟩ := h
  exact ⟨⟨v, (hx.block p (lt_of_heap h1) id).trans h1, own_keep h2 fun b cur fr hb => (hx.block b (lt_of_heap hb) id).trans hb⟩, h3⟩

theorem wbytes_any {B p : Nat} {w : World} {bs : List UInt8} (h : WAt B w p bs) (hl : bs.length ≤ 1073741824) :
    Calls Tryz.prog 95 #[.pointer (some ⟨p, 0, none⟩)] w fun e w' => ∃ u, e = .returned u ∧ w'.ownsRow w.heap.size 5 1 u bs.length (u8s bs) ∧ Below w.heap.size w w' := by
  obtain ⟨⟨v, h1, h2⟩, h3⟩ := h
  have hcell := cell_of_block h1 0
  simp at hcell
  have hcl := cloneB_any (Rd.of_own h2) (u8s_oneCell bs) (by omega)
  have HC := Lib.hid hcl
  clear hcl h2 h1
  go_enter Tryz.func95, Tryz.ntmps95
  go_wp2_with (go_at_call 133; refine HC.out.mono ?_; rintro e w' ⟨v', rfl, ho, hbl⟩)
  go_ret
  exact ⟨_, rfl, ho, hbl⟩

/-- What has been written of a pair. -/
structure BSt (w W : World) (k v : List UInt8) (g : Bool) (bs : List UInt8) : Prop where
  wr : WAt (w.heap.size + 1) W (w.heap.size + 1) bs
  par : W.heap[w.heap.size]? = some (.cells #[bstr k, bstr v, .bool g] 54 (0, 0))
  ext : Ext (fun i => w.heap.size ≤ i) w W
theorem BSt.drew {w W : World} {k v bs : List UInt8} {g : Bool} (h : BSt w W k v g bs) : BSt w W.drew k v g bs := ⟨⟨h.wr.lay, h.wr.above⟩, h.par, h.ext.drew⟩
theorem BSt.next {w W W' : World} {k v bs bs' : List UInt8} {g : Bool} {o : Obj} (h : BSt w W k v g bs) (h1 : WAt (w.heap.size + 1) W' (w.heap.size + 1) bs') (h2 : Ext (fun i => w.heap.size + 1 ≤ i) (W.alloc o) W') : BSt w W' k v g bs' :=
  ⟨h1, (h2.block _ (by have := lt_of_heap h.par; simp; omega) (by omega)).trans ((heap_alloc_lt (lt_of_heap h.par)).trans h.par), (h.ext.alloc o).andThen h2 fun _ _ _ => by omega⟩
theorem BSt.le {w W : World} {k v bs : List UInt8} {g : Bool} (h : BSt w W k v g bs) : w.heap.size + 1 ≤ W.heap.size := by have := lt_of_heap h.par; omega
theorem BSt.cells {w W : World} {k v bs : List UInt8} {g : Bool} (h : BSt w W k v g bs) : W.cell? ⟨w.heap.size, 0, none⟩ = some (bstr k) ∧ W.cell? ⟨w.heap.size, 1, none⟩ = some (bstr v) ∧ W.cell? ⟨w.heap.size, 2, none⟩ = some (.bool g) := by
  refine ⟨?_, ?_, ?_⟩ <;> rw [cell_of_block h.par] <;> rfl
theorem BSt.bool {w W : World} {k v bs : List UInt8} {g : Bool} (h : BSt w W k v g bs) (hl : bs.length ≤ 1073741824) : Calls Tryz.prog 93 #[.pointer (some ⟨w.heap.size + 1, 0, none⟩), .slice (some ⟨W.heap.size, 0, none⟩) 1 1] (W.alloc (.cells #[.bool g] 4))
    fun e W' => e = .returned (.tuple #[]) ∧ BSt w W' k v g (bs ++ boolF g) := by
  refine (bool_any (h.wr.alloc (.cells #[.bool g] 4)) (k := W.heap.size) (by have := h.le; simp; omega) (by rw [cell_of_block (heap_alloc_new W _)]; rfl) hl).mono ?_
  rintro e W' ⟨rfl, h1, h2⟩
  exact ⟨rfl, h.next h1 h2⟩
theorem BSt.text {w W : World} {k v bs : List UInt8} {g : Bool} (h : BSt w W k v g bs) (x : List UInt8) (hl : bs.length + x.length ≤ 1073741000) : Calls Tryz.prog 94 #[.pointer (some ⟨w.heap.size + 1, 0, none⟩), .slice (some ⟨W.heap.size, 0, none⟩) 1 1] (W.alloc (.cells #[bstr x] 9))
    fun e W' => e = .returned (.tuple #[]) ∧ BSt w W' k v g (bs ++ textF x) := by
  refine (text_any (h.wr.alloc (.cells #[bstr x] 9)) (k := W.heap.size) (by have := h.le; simp; omega) (by rw [cell_of_block (heap_alloc_new W _)]; rfl) hl).mono ?_
  rintro e W' ⟨rfl, h1, h2⟩
  exact ⟨rfl, h.next h1 h2⟩
theorem boolF_length (g : Bool) : (boolF g).length = 1 := rfl
theorem textF_le {x : List UInt8} (h : x.length ≤ 1000000) : (textF x).length ≤ x.length + 10 := by
  have := numF_le10 (x := x.length) (by omega)
  simp [textF]
  omega

set_option maxRecDepth 100000 in
set_option maxHeartbeats 2000000 in
theorem sbytes_any (w : World) (k v : List UInt8) (g : Bool) (hk : k.length ≤ 1000000) (hv : v.length ≤ 1000000) :
    Calls Tryz.prog 53 #[.agg #[bstr k, bstr v, .bool g]] w fun e w' => ∃ u, e = .returned u ∧ w'.ownsRow w.heap.size 5 1 u (pairF k v g).length (u8s (pairF k v g)) ∧ Below w.heap.size w w' := by
  have h10 := textF_le hk
  have h11 := textF_le hv
  have HN : Hid (∀ o, o = .cells #[bstr k, bstr v, .bool g] 54 → Calls Tryz.prog 92 #[] (w.alloc o) fun e w' => e = .returned (.pointer (some ⟨w.heap.size + 1, 0, none⟩)) ∧ Hid (BSt w w' k v g [])) := by
    rintro o rfl
    refine (newWriter_any _).mono ?_
    rintro e w' ⟨rfl, h1, h2⟩
    have e1 : (w.alloc (.cells #[bstr k, bstr v, .bool g] 54)).heap.size = w.heap.size + 1 := by simp
    rw [e1] at h1 ⊢
    refine ⟨rfl, h1, (h2.block _ (by simp) id).trans (heap_alloc_new w _), ((Ext.refl _ w).alloc _).trans (h2.mono fun _ _ q => q.elim)⟩
  have HF : Hid (∀ W bs, BSt w W k v g bs → bs.length ≤ 3000000 → Calls Tryz.prog 95 #[.pointer (some ⟨w.heap.size + 1, 0, none⟩)] W fun e w' => ∃ u, e = .returned u ∧ Hid (w'.ownsRow w.heap.size 5 1 u bs.length (u8s bs) ∧ Below w.heap.size w w')) := by
    intro W bs h hl
    refine (wbytes_any h.wr (by omega)).mono ?_
    rintro e w' ⟨u, rfl, h1, h2⟩
    have hle := h.le
    refine ⟨u, rfl, ?_, (h.ext.below (fun i hi hq => by omega) (Nat.le_refl _)).trans ⟨h2.os, h2.tape, h2.output, h2.size, fun i hi => h2.block i (by omega)⟩⟩
    obtain ⟨q1, q2 | ⟨gg, a1, a2, a3, a4, a5⟩⟩ := h1
    · exact ⟨q1, .inl q2⟩
    · exact ⟨q1, .inr ⟨gg, a1, a2, a3, by omega, a5⟩⟩
  go_enter Tryz.func53, Tryz.ntmps53
  go_wp2_with fail
  refine (HN.out _ rfl).mono ?_
  rintro e w2 ⟨rfl, H2⟩
  have hS0 := H2.out.drew.cells.2.2
  have hS1 : (w2.drew.alloc (.cells #[.bool g] 4)).cell? ⟨w.heap.size, 2, none⟩ = some (.bool g) := by
    rw [cell_of_block ((heap_alloc_lt (lt_of_heap H2.out.drew.par)).trans H2.out.drew.par)]
    rfl
  have HA := Lib.hid (H2.out.drew.bool (by simp))
  go_wp2_with fail
  refine region_X (fun W => W.cell? ⟨w.heap.size, 2, none⟩ = some (.bool g)) (by kernel_rfl) ?_
  simp only [List.length_cons, List.length_nil, Nat.reduceAdd]
  refine AnyX.take 0 rfl (by kernel_rfl) (fun _ _ _ h => h) hS0 rfl (by rintro W hS; go_simp; rfl) ?_; simp only [Act.put, List.setIfInBounds_toArray, List.set_cons_succ, List.set_cons_zero]
  refine AnyX.take 1 rfl (by kernel_rfl) (fun _ _ _ h => h) hS0 rfl (by rintro W hS; go_simp; rfl) ?_; simp only [Act.put, List.setIfInBounds_toArray, List.set_cons_succ, List.set_cons_zero]
  refine AnyX.take 2 rfl (by kernel_rfl) (fun _ _ _ h => h) hS0 rfl (by rintro W hS; go_simp; rfl) ?_; simp only [Act.put, List.setIfInBounds_toArray, List.set_cons_succ, List.set_cons_zero]
  refine AnyX.take 3 rfl (by kernel_rfl) (fun _ _ _ h => h) hS0 rfl (by rintro W hS; go_simp; rfl) ?_; simp only [Act.put, List.setIfInBounds_toArray, List.set_cons_succ, List.set_cons_zero]
  refine AnyX.take 4 rfl (by kernel_rfl) (fun _ _ _ h => h) hS0 rfl (by rintro W hS; go_simp; rfl) ?_; simp only [Act.put, List.setIfInBounds_toArray, List.set_cons_succ, List.set_cons_zero]
  refine AnyX.act 5 rfl (by kernel_rfl) rfl (fun K hK => ?_)
  go_wp2_with (fail)
  refine hK _ _ hS1 ?_
  clear hK K
  refine AnyX.end_ 6 rfl (by kernel_rfl) (by kernel_rfl) (by kernel_rfl) rfl ?_
  go_wp2_with fail
  refine HA.out.mono ?_
  rintro e w3 ⟨rfl, h3⟩
  have H3 := Lib.hid h3
  clear h3 HA hS0 hS1
  have hS0 := H3.out.drew.cells.1
  have hS1 : (w3.drew.alloc (.cells #[bstr k] 9)).cell? ⟨w.heap.size, 0, none⟩ = some (bstr k) := by
    rw [cell_of_block ((heap_alloc_lt (lt_of_heap H3.out.drew.par)).trans H3.out.drew.par)]
    rfl
  have HA := Lib.hid (H3.out.drew.text k (by simp [boolF_length]; omega))
  go_wp2_with fail
  refine region_X (fun W => W.cell? ⟨w.heap.size, 0, none⟩ = some (bstr k)) (by kernel_rfl) ?_
  simp only [List.length_cons, List.length_nil, Nat.reduceAdd]
  refine AnyX.take 0 rfl (by kernel_rfl) (fun _ _ _ h => h) hS0 rfl (by rintro W hS; go_simp; rfl) ?_; simp only [Act.put, List.setIfInBounds_toArray, List.set_cons_succ, List.set_cons_zero]
  refine AnyX.take 1 rfl (by kernel_rfl) (fun _ _ _ h => h) hS0 rfl (by rintro W hS; go_simp; rfl) ?_; simp only [Act.put, List.setIfInBounds_toArray, List.set_cons_succ, List.set_cons_zero]
  refine AnyX.take 2 rfl (by kernel_rfl) (fun _ _ _ h => h) hS0 rfl (by rintro W hS; go_simp; rfl) ?_; simp only [Act.put, List.setIfInBounds_toArray, List.set_cons_succ, List.set_cons_zero]
  refine AnyX.take 3 rfl (by kernel_rfl) (fun _ _ _ h => h) hS0 rfl (by rintro W hS; go_simp; rfl) ?_; simp only [Act.put, List.setIfInBounds_toArray, List.set_cons_succ, List.set_cons_zero]
  refine AnyX.take 4 rfl (by kernel_rfl) (fun _ _ _ h => h) hS0 rfl (by rintro W hS; go_simp; rfl) ?_; simp only [Act.put, List.setIfInBounds_toArray, List.set_cons_succ, List.set_cons_zero]
  refine AnyX.act 5 rfl (by kernel_rfl) rfl (fun K hK => ?_)
  go_wp2_with (fail)
  refine hK _ _ hS1 ?_
  clear hK K
  refine AnyX.end_ 6 rfl (by kernel_rfl) (by kernel_rfl) (by kernel_rfl) rfl ?_
  go_wp2_with fail
  refine HA.out.mono ?_
  rintro e w4 ⟨rfl, h4⟩
  have H4 := Lib.hid h4
  clear h4 HA hS0 hS1
  have hc4 := H4.out.cells.2.2
  cases g with
  | false =>
    have hS0 := H4.out.drew.cells.2.1
    have hS1 : (w4.drew.alloc (.cells #[bstr v] 9)).cell? ⟨w.heap.size, 1, none⟩ = some (bstr v) := by
      rw [cell_of_block ((heap_alloc_lt (lt_of_heap H4.out.drew.par)).trans H4.out.drew.par)]
      rfl
    have HA := Lib.hid (H4.out.drew.text v (by simp [boolF_length]; omega))
    go_wp2_with fail
    refine region_X (fun W => W.cell? ⟨w.heap.size, 1, none⟩ = some (bstr v)) (by kernel_rfl) ?_
    simp only [List.length_cons, List.length_nil, Nat.reduceAdd]
    refine AnyX.take 0 rfl (by kernel_rfl) (fun _ _ _ h => h) hS0 rfl (by rintro W hS; go_simp; rfl) ?_; simp only [Act.put, List.setIfInBounds_toArray, List.set_cons_succ, List.set_cons_zero]
    refine AnyX.take 1 rfl (by kernel_rfl) (fun _ _ _ h => h) hS0 rfl (by rintro W hS; go_simp; rfl) ?_; simp only [Act.put, List.setIfInBounds_toArray, List.set_cons_succ, List.set_cons_zero]
    refine AnyX.take 2 rfl (by kernel_rfl) (fun _ _ _ h => h) hS0 rfl (by rintro W hS; go_simp; rfl) ?_; simp only [Act.put, List.setIfInBounds_toArray, List.set_cons_succ, List.set_cons_zero]
    refine AnyX.take 3 rfl (by kernel_rfl) (fun _ _ _ h => h) hS0 rfl (by rintro W hS; go_simp; rfl) ?_; simp only [Act.put, List.setIfInBounds_toArray, List.set_cons_succ, List.set_cons_zero]
    refine AnyX.take 4 rfl (by kernel_rfl) (fun _ _ _ h => h) hS0 rfl (by rintro W hS; go_simp; rfl) ?_; simp only [Act.put, List.setIfInBounds_toArray, List.set_cons_succ, List.set_cons_zero]
    refine AnyX.act 5 rfl (by kernel_rfl) rfl (fun K hK => ?_)
    go_wp2_with (fail)
    refine hK _ _ hS1 ?_
    clear hK K
    refine AnyX.end_ 6 rfl (by kernel_rfl) (by kernel_rfl) (by kernel_rfl) rfl ?_
    go_wp2_with fail
    refine HA.out.mono ?_
    rintro e w5 ⟨rfl, h5⟩
    have HG := Lib.hid (HF.out _ _ h5 (by simp [boolF_length]; omega))
    clear h5 HA hS0 hS1
    go_wp2_with fail
    refine HG.out.mono ?_
    rintro e w6 ⟨u, rfl, h6⟩
    go_wp2_with fail
    go_ret
    exact ⟨_, rfl, by simpa [pairF] using h6.out⟩
  | true =>
    have HG := Lib.hid (HF.out _ _ H4.out (by simp [boolF_length]; omega))
    go_wp2_with fail
    refine HG.out.mono ?_
    rintro e w6 ⟨u, rfl, h6⟩
    go_wp2_with fail
    go_ret
    exact ⟨_, rfl, by simpa [pairF] using h6.out⟩

end Go.Proofs.YtekolejeliefdaaGreat
