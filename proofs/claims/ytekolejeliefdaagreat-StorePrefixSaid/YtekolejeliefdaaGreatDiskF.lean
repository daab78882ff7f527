/- The disk: Copy. -/
import Derived.Test.YtekolejeliefdaaGreatDiskE
import Derived.Maps.RangeWalk
set_option linter.unusedVariables false
set_option linter.unusedSimpArgs false
namespace Go.Proofs.YtekolejeliefdaaGreat
open Go.RowKit
variable {X : Nat → Prop}

theorem DRel.inv {w : World} {z : Nat} {x : Int} {v : Value} : ∀ {l : ME} {d : List (Nat × List UInt8)}, DRel X w z l d → lget l (.int .i64 x) = some v → ∃ q ∈ d, x = q.1 ∧ RdX X w 5 1 v z (u8s q.2)
  | [], [], _, h => by cases h
  | p :: l, q :: d, hr, h => by
    obtain ⟨h1, h2, h3⟩ := hr
    rw [lget_cons, h1, sameKey_int] at h
    by_cases e : (q.1 : Int) = x
    · simp only [e, decide_true, if_true, Option.some.injEq] at h
      exact ⟨q, by simp, e.symm, h ▸ h2⟩
    · simp only [e, decide_false, Bool.false_eq_true, if_false] at h
      obtain ⟨q', hq', r⟩ := DRel.inv h3 h
      exact ⟨q', by simp [hq'], r⟩
theorem mem_dput_iff (d : List (Nat × List UInt8)) (i : Nat) (x : List UInt8) (y : Nat × List UInt8) : y ∈ dput d i x ↔ y = (i, x) ∨ (y ∈ d ∧ y.1 ≠ i) := by
  have h : ∀ (l : List (Nat × List UInt8)), y ∈ dins (i, x) l ↔ y = (i, x) ∨ y ∈ l := by
    intro l
    induction l with
    | nil => simp [dins]
    | cons q r ih =>
      simp only [dins]
      split
      · simp
      · simp only [List.mem_cons, ih]
        constructor
        · rintro (h | h | h)
          · exact .inr (.inl h)
          · exact .inl h
          · exact .inr (.inr h)
        · rintro (h | h | h)
          · exact .inr (.inl h)
          · exact .inl h
          · exact .inr (.inr h)
  rw [dput, h]
  simp
/-- Two lists in order with the same members are one. -/
theorem sorted_ext : ∀ (d e : List (Nat × List UInt8)), d.Pairwise (fun p q => p.1 < q.1) → e.Pairwise (fun p q => p.1 < q.1) → (∀ q, q ∈ d ↔ q ∈ e) → d = e
  | [], [], _, _, _ => rfl
  | [], q :: e, _, _, h => absurd ((h q).2 (by simp)) (by simp)
  | q :: d, [], _, _, h => absurd ((h q).1 (by simp)) (by simp)
  | p :: d, q :: e, hd, he, h => by
    rw [List.pairwise_cons] at hd he
    have hpq : p = q := by
      have h1 := (h p).1 (by simp)
      have h2 := (h q).2 (by simp)
      rcases List.mem_cons.1 h1 with h1 | h1
      · exact h1
      · rcases List.mem_cons.1 h2 with h2 | h2
        · exact h2.symm
        · have := he.1 p h1
          have := hd.1 q h2
          omega
    subst hpq
    congr 1
    refine sorted_ext d e hd.2 he.2 (fun r => ?_)
    constructor
    · intro hr
      rcases List.mem_cons.1 ((h r).1 (by simp [hr])) with h1 | h1
      · subst h1
        have := hd.1 r hr
        omega
      · exact h1
    · intro hr
      rcases List.mem_cons.1 ((h r).2 (by simp [hr])) with h1 | h1
      · subst h1
        have := he.1 r hr
        omega
      · exact h1

theorem dget_of_mem : ∀ {d : List (Nat × List UInt8)} {q : Nat × List UInt8}, d.Pairwise (fun p q => p.1 < q.1) → q ∈ d → dget d q.1 = some q.2 := by
  intro d q hp hq
  obtain ⟨i, hi, e⟩ := List.getElem_of_mem hq
  exact dget_sorted (k := i) hp (by rw [List.getElem?_eq_getElem hi, e])

section
variable {w : World} {p g m : Nat} {s : DS}
theorem DiskAt.store (h : DiskAt X w p g m s) {j : Nat} {v : Value} {b : List UInt8} (hv : RdX X w 5 1 v s.size (u8s b)) (hj : j < s.sure.length) :
    ∃ w3, (Instr.mapUpdate 107 (.map (some m)) (.int .i64 j) v).run Tryz.prog w = .ok () w3 ∧ DiskAt X w3 p g m { s with dirty := dput s.dirty j b } ∧ w.mapTurned w3 m := by
  have hN := h.ok.n2
  have hl : b.length = s.size := by have := hv.1.1; simpa [u8s] using this
  have hkey : keyOf Tryz.prog 3 (.int .i64 (j : Int)) = some (.int .i64 (j : Int)) := Maps.keyOf_int_mk Tryz.underlying3 (WalkArith.wf_i64 (by omega))
  obtain ⟨l, hm, hdr⟩ := h.map
  have hll : l.length < maxLen := by
    rw [hdr.length]
    have := h.ok.dlen
    simp only [maxLen]
    omega
  obtain ⟨w3, hrun, hm3, ht⟩ := hm.store (Maps.int_keyed Tryz.underlying3) Tryz.underlying107 hll hkey v
  obtain ⟨sv, hb2, hgg⟩ := h.blk
  have hx3 := mapTurned_ext ht
  have hk3 := mapTurned_keepT ht 5
  obtain ⟨hpg, hpm, hgm⟩ := h.ne
  obtain ⟨lp, lg, lm⟩ := h.lt
  refine ⟨w3, hrun, ⟨?_, ?_, ?_, fun k hk => Nat.lt_of_lt_of_le (h.low k hk) hx3.size, h.off⟩, ht⟩
  · obtain ⟨o1, o2, o3, o4, o5, o6, o7, o8, o9⟩ := h.ok
    refine ⟨o1, o2, o3, o4, o5, fun y hy => ?_, dput_sorted _ _ _ o7, o8, o9⟩
    rcases mem_dput hy with rfl | hy
    · exact ⟨hj, hl⟩
    · exact o6 y hy
  · obtain ⟨cap, cur, e, hg', h1, h2, h3, h4⟩ := hgg
    exact ⟨sv, (hx3.block p lp hpm).trans hb2, cap, cur, e, (hx3.block g lg hgm).trans hg', h1, h2, h3, fun i x hx => by obtain ⟨v, hv, hr⟩ := h4 i x hx; exact ⟨v, hv, hr.kept hk3⟩⟩
  · exact ⟨_, hm3, (hdr.kept hk3).put (hv.kept hk3)⟩
end

/-- A copy on the way: the entries that have come are in it. -/
structure CopyInv (X : Nat → Prop) (w : World) (p g m p' g' m' : Nat) (s : DS) (l : ME) (r : Nat) (wr : World) (left : Lit → Bool) (cnt : Nat) : Prop where
  disk : ∃ d, DiskAt X wr p' g' m' { s with dirty := d } ∧ ∀ q, q ∈ d ↔ q ∈ s.dirty ∧ left (.int .i64 (q.1 : Int)) = false
  rng : wr.ranges Tryz.prog 3 RV m r l.length (mD l) left cnt
  below : Below w.heap.size w wr
  p1 : w.heap.size ≤ p' ∧ w.heap.size ≤ g' ∧ w.heap.size ≤ m' ∧ w.heap.size ≤ r ∧ r ≠ p' ∧ r ≠ g' ∧ r ≠ m'

theorem CopyInv.start {w W w0 : World} {p g m g' m' c' : Nat} {s : DS} {l : ME} {vs : List Value} (h : DiskAt X w p g m s) (hdr : DRel X w s.size l s.dirty)
    (hvv : ∀ (i : Nat) (x : List UInt8), s.sure[i]? = some x → ∃ v, vs[i]? = some v ∧ RdX X w 5 1 v s.size (u8s x))
    (f1 : w.heap.size ≤ g') (f2 : w.heap.size ≤ m') (f3 : W.ownsRow w.heap.size 114 1 (.slice (some ⟨g', 0, none⟩) s.sure.length c') s.sure.length vs) (f4 : MapL Tryz.prog 3 W m' []) (f5 : Ext (fun _ => False) w W)
    (hrg : w0.ranges Tryz.prog 3 RV m (W.heap.size + 1) l.length (mD l) (Maps.has (mD l)) (Maps.size (mD l)))
    (hg0 : (W.alloc (.cells #[.slice (some ⟨g', 0, none⟩) s.sure.length c', .map (some m'), .int .i64 s.cut, .bool s.dead] 112)).grownBy w0 none) :
    CopyInv X w p g m W.heap.size g' m' s l (W.heap.size + 1) w0 (Maps.has (mD l)) (Maps.size (mD l)) := by
  have hx0 : Ext (fun _ => False) W w0 := ((Ext.refl _ W).alloc _).trans (Ext.of_grown hg0 (fun k e => by cases e))
  have hx := f5.trans hx0
  have hbox : w0.heap[W.heap.size]? = some (.cells #[.slice (some ⟨g', 0, none⟩) s.sure.length c', .map (some m'), .int .i64 s.cut, .bool s.dead] 112) :=
    (hg0.block _ (by simp) (by simp)).trans (heap_alloc_new W _)
  have f3' := own_keep f3 (hx0.keepT (fun _ _ _ _ => id))
  have f4' := f4.kept (hx0.block _ f4.lt id)
  have hlm := f4.lt
  refine ⟨⟨[], ⟨?_, ?_, ⟨[], f4', trivial⟩, fun k hk => Nat.lt_of_lt_of_le (h.low k hk) hx.size, ⟨fun a => by have := h.low _ a; have := f5.size; omega, fun a => by have := h.low _ a; omega, fun a => by have := h.low _ a; omega⟩⟩, fun q => ?_⟩, hrg, hx.below (fun _ _ e => e) (Nat.le_refl _), f5.size, f1, f2, by have := f5.size; omega, by omega, ?_, by omega⟩
  · obtain ⟨o1, o2, o3, o4, o5, o6, o7, o8, o9⟩ := h.ok
    exact ⟨o1, o2, o3, o4, o5, by simp, List.Pairwise.nil, o8, o9⟩
  · obtain ⟨hvl, e1 | ⟨gg, cap, cur, e1, _, hgg, k1, k2, k3, k4⟩⟩ := f3'
    · simp at e1
    · simp only [Value.slice.injEq, Option.some.injEq, Addr.mk.injEq, and_true, true_and] at e1
      obtain ⟨rfl, rfl⟩ := e1
      refine ⟨_, hbox, c', cur, rfl, hgg, k1, k2, by simpa using k3, fun i x hix => ?_⟩
      obtain ⟨v, hv, hr⟩ := hvv i x hix
      refine ⟨v, ?_, hr.kept (hx.keepT (fun _ _ _ _ => id))⟩
      have hil : i < s.sure.length := (List.getElem?_eq_some_iff.1 hix).1
      rw [← k4, List.getElem?_take_of_lt (by omega), Array.getElem?_toList] at hv
      exact hv
  · simp only [List.not_mem_nil, false_iff, not_and, Bool.not_eq_false]
    intro hq
    rw [mD_has]
    rcases hdr.get q.1 with ⟨x, v, _, e2, _⟩ | ⟨e1, _⟩
    · rw [e2]
      rfl
    · exfalso
      simp only [dget, Option.map_eq_none_iff, List.find?_eq_none] at e1
      exact e1 q hq (by simp)
  · obtain ⟨_, _ | ⟨gg, cap, cur, e1, _, hgg, _⟩⟩ := f3
    · rename_i e1
      simp at e1
    · simp only [Value.slice.injEq, Option.some.injEq, Addr.mk.injEq, and_true, true_and] at e1
      obtain ⟨rfl, _⟩ := e1
      have := lt_of_heap hgg
      omega

theorem CopyInv.step {w wr w1 : World} {p g m p' g' m' r : Nat} {s : DS} {l : ME} {left : Lit → Bool} {cnt cnt1 : Nat} {x : Int} {c : Value} (h : DiskAt X w p g m s) (hdr : DRel X w s.size l s.dirty)
    (hI : CopyInv X w p g m p' g' m' s l r wr left cnt) (hlk : left (.int .i64 x) = true) (hat : lget l (.int .i64 x) = some c)
    (hrg1 : w1.ranges Tryz.prog 3 RV m r l.length (mD l) (fun z => left z && !z.sameKey (.int .i64 x)) cnt1) (hg1 : wr.grownBy w1 (some r)) :
    w1.drew.cell? ⟨p', 1, none⟩ = some (.map (some m')) ∧ Calls Tryz.prog 133 #[c] w1.drew fun e w2 => ∃ v', e = .returned v' ∧ w2.cell? ⟨p', 1, none⟩ = some (.map (some m')) ∧
      ∃ w3, (Instr.mapUpdate 107 (.map (some m')) (.int .i64 x) v').run Tryz.prog w2 = .ok () w3 ∧ Hid (CopyInv X w p g m p' g' m' s l r w3 (fun z => left z && !z.sameKey (.int .i64 x)) cnt1) := by
  obtain ⟨⟨d, hd, hdm⟩, hrg, hbl, b1, b2, b3, b4, n1, n2, n3⟩ := hI
  obtain ⟨q, hq, rfl, hr⟩ := hdr.inv hat
  have hqz := h.ok.dz q hq
  have hZ := h.ok.z2
  obtain ⟨lp', lg', lm'⟩ := hd.lt
  have hk1 : KeepT 5 wr w1 := by
    intro b cur fr hb
    refine (hg1.block b (lt_of_heap hb) ?_).trans hb
    intro e
    cases e
    obtain ⟨_, _, _, _, _, _, _, _, _, hrr, _⟩ := hrg
    rw [hrr] at hb
    cases hb
  have hd1 : DiskAt X w1 p' g' m' { s with dirty := d } := hd.kept (hg1.block _ lp' (by simpa using Ne.symm n1)) (hg1.block _ lg' (by simpa using Ne.symm n2)) (hg1.block _ lm' (by simpa using Ne.symm n3)) hg1.size (.of hk1)
  have hr1 : RdX X w1 5 1 c s.size (u8s q.2) := (hr.kept (fun b cur fr hb => (hbl.block b (lt_of_heap hb)).trans hb)).kept hk1
  have hc1 : w1.cell? ⟨p', 1, none⟩ = some (.map (some m')) := by
    obtain ⟨sv, hb, _⟩ := hd1.blk
    rw [cell_of_block hb]
    rfl
  refine ⟨hc1, ?_⟩
  refine (cloneB_any (w := w1.drew) (hr1.1.kept (fun _ _ _ h => h)) (u8s_oneCell q.2) (by omega)).mono ?_
  rintro e w2 ⟨v', rfl, ho, hb⟩
  have hx2 : Ext (fun _ => False) w1 w2 := (Ext.refl _ w1).drew.trans (Ext.of_below hb (Nat.le_refl _))
  have hd2 := hd1.kept_ext hx2 id id id (hx2.keepT (fun _ _ _ _ => id))
  obtain ⟨w3, hrun, hd3, ht⟩ := hd2.store (j := q.1) (b := q.2) (RdX.of_own ho hd1.low) hqz.1
  refine ⟨v', rfl, ?_, w3, hrun, ?_⟩
  · obtain ⟨sv, hb, _⟩ := hd2.blk
    rw [cell_of_block hb]
    rfl
  · have hs1 := hbl.size
    have hs2 := hg1.size
    have hx3 := mapTurned_ext ht
    refine ⟨⟨dput d q.1 q.2, hd3, fun y => ?_⟩, ?_, ?_, b1, b2, b3, b4, n1, n2, n3⟩
    · rw [mem_dput_iff, hdm]
      simp only [Bool.and_eq_false_iff, sameKey_int, Bool.not_eq_false', decide_eq_true_eq]
      constructor
      · rintro (rfl | ⟨⟨h1, h2⟩, h3⟩)
        · exact ⟨hq, .inr rfl⟩
        · exact ⟨h1, .inl h2⟩
      · rintro ⟨h1, h2⟩
        by_cases e : y.1 = q.1
        · left
          have := dget_of_mem h.ok.ds h1
          have h4 := dget_of_mem h.ok.ds hq
          rw [e, h4] at this
          cases y
          cases q
          simp_all
        · exact .inr ⟨⟨h1, h2.resolve_right (by omega)⟩, e⟩
    · have hrg2 := hrg1.kept (row := none) (w' := w2) ⟨hx2.os, hx2.tape, hx2.output, hx2.size, fun k hk _ => hx2.block k hk id⟩ (by simp) (by simp)
      exact hrg2.kept ht.grown (by have := h.lt.2.2; simp; omega) (by simpa using n3)
    · have q1 : Below w.heap.size w w1 := hbl.grown hg1 hs1 (fun k e => by cases e; exact b4)
      exact (q1.trans (hx2.below (fun _ _ e => e) (by omega))).grown ht.grown (by have := hx2.size; omega) (fun k e => by cases e; exact b3)

end Go.Proofs.YtekolejeliefdaaGreat
