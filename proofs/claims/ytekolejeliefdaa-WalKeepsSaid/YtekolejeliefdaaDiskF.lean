/- The disk: Copy. -/
import Derived.Test.YtekolejeliefdaaDiskE
import Derived.Maps.RangeWalk
set_option linter.unusedVariables false
set_option linter.unusedSimpArgs false
namespace Go.Proofs.Ytekolejeliefdaa
open Go.RowKit
variable {X : Nat → Prop}

theorem cloneBs_any {w : World} {v : Value} {n : Nat} {cs : List Value} (h : Rd w 33 1 v n cs) (h1 : ∀ u ∈ cs, u.oneCell' = true) (hn : n ≤ 1073741824) :
    Calls Try.prog 43 #[v] w fun e w' => ∃ v', e = .returned v' ∧ w'.ownsRow w.heap.size 33 1 v' n cs ∧ Below w.heap.size w w' := by
  have h0 := h
  obtain ⟨hl, hm, c, ⟨rfl, rfl⟩ | ⟨b, off, rfl, _, hr⟩⟩ := h
  · obtain rfl : cs = [] := List.eq_nil_of_length_eq_zero (by simpa using hl)
    refine (AnyE.slices_Clone_nil cloneBs 0 0 w).mono ?_
    rintro e w' ⟨rfl, rfl⟩
    exact ⟨_, rfl, World.ownsRow_nil _ _ _ _, Below.refl _ _⟩
  · obtain ⟨i0, hi, hz⟩ := Option.map_eq_some_iff.1 (show (Try.prog.info? 33).map (fun i => (i.zero, i.size, i.bytes)) = some (some (.slice none 0 0), 1, 24) by kernel_rfl)
    simp only [Prod.mk.injEq] at hz
    refine (AnyE.slices_Clone cloneBs i0 (.slice none 0 0) 1 24 hi hz.1 hz.2.1 hz.2.2 rfl (by decide) Try.sizeOf33 b off n c cs w hl hm (by omega) ?_ h1).mono ?_
    · intro j u hj
      have := h0.news j u hj
      rwa [show (⟨b, off, none⟩ : Addr).add j = ⟨b, off + j, none⟩ by unfold Addr.add; split <;> simp_all] at this
    · rintro e w' ⟨v', rfl, ho, _, hb⟩
      exact ⟨v', rfl, ho, hb⟩

theorem DRel.inv {w : World} {z : Nat} {x : Int} {v : Value} : ∀ {l : ME} {d : List (Nat × List UInt8)}, DRel X w z l d → lget l (.int .i64 x) = some v → ∃ q ∈ d, x = q.1 ∧ RdX X w 5 1 v z (u8s q.2)
  | [], [], _, h => by cases h
  | p :: l, q :: d, hr, h => by
    obtain ⟨h1, h2, h3⟩ := hr
    rw [lget_cons, h1, sameKey_int] at h
    by_cases e : (q.1 : Int) = x
    · simp only [e, decide_true, if_true, Option.some.injEq] at h
      exact ⟨q, by simp, e.symm, h ▸ h2⟩
    · simp only [e, decide_false, Bool.false_eq_true, if_false] at h
      obtain ⟨q', hq', r⟩ := DRel.inv h3 h
      exact ⟨q', by simp [hq'], r⟩
theorem mem_dput_iff (d : List (Nat × List UInt8)) (i : Nat) (x : List UInt8) (y : Nat × List UInt8) : y ∈ dput d i x ↔ y = (i, x) ∨ (y ∈ d ∧ y.1 ≠ i) := by
  have h : ∀ (l : List (Nat × List UInt8)), y ∈ dins (i, x) l ↔ y = (i, x) ∨ y ∈ l := by
    intro l
    induction l with
    | nil => simp [dins]
    | cons q r ih =>
      simp only [dins]
      split
      · simp
      · simp only [List.mem_cons, ih]
        constructor
        · rintro (h | h | h)
          · exact .inr (.inl h)
          · exact .inl h
          · exact .inr (.inr h)
        · rintro (h | h | h)
          · exact .inr (.inl h)
          · exact .inl h
          · exact .inr (.inr h)
  rw [dput, h]
  simp
/-- Two lists in order with the same members are one. -/
theorem sorted_ext : ∀ (d e : List (Nat × List UInt8)), d.Pairwise (fun p q => p.1 < q.1) → e.Pairwise (fun p q => p.1 < q.1) → (∀ q, q ∈ d ↔ q ∈ e) → d = e
  | [], [], _, _, _ => rfl
  | [], q :: e, _, _, h => absurd ((h q).2 (by simp)) (by simp)
  | q :: d, [], _, _, h => absurd ((h q).1 (by simp)) (by simp)
  | p :: d, q :: e, hd, he, h => by
    rw [List.pairwise_cons] at hd he
    have hpq : p = q := by
      have h1 := (h p).1 (by simp)
      have h2 := (h q).2 (by simp)
      rcases List.mem_cons.1 h1 with h1 | h1
      · exact h1
      · rcases List.mem_cons.1 h2 with h2 | h2
        · exact h2.symm
        · have := he.1 p h1
          have := hd.1 q h2
          omega
    subst hpq
    congr 1
    refine sorted_ext d e hd.2 he.2 (fun r => ?_)
    constructor
    · intro hr
      rcases List.mem_cons.1 ((h r).1 (by simp [hr])) with h1 | h1
      · subst h1
        have := hd.1 r hr
        omega
      · exact h1
    · intro hr
      rcases List.mem_cons.1 ((h r).2 (by simp [hr])) with h1 | h1
      · subst h1
        have := he.1 r hr
        omega
      · exact h1

theorem dget_of_mem : ∀ {d : List (Nat × List UInt8)} {q : Nat × List UInt8}, d.Pairwise (fun p q => p.1 < q.1) → q ∈ d → dget d q.1 = some q.2 := by
  intro d q hp hq
  obtain ⟨i, hi, e⟩ := List.getElem_of_mem hq
  exact dget_sorted (k := i) hp (by rw [List.getElem?_eq_getElem hi, e])

section
variable {w : World} {p g m : Nat} {s : DS}
theorem DiskAt.store (h : DiskAt X w p g m s) {j : Nat} {v : Value} {b : List UInt8} (hv : RdX X w 5 1 v s.size (u8s b)) (hj : j < s.sure.length) :
    ∃ w3, (Instr.mapUpdate 27 (.map (some m)) (.int .i64 j) v).run Try.prog w = .ok () w3 ∧ DiskAt X w3 p g m { s with dirty := dput s.dirty j b } ∧ w.mapTurned w3 m := by
  have hN := h.ok.n2
  have hl : b.length = s.size := by have := hv.1.1; simpa [u8s] using this
  have hkey : keyOf Try.prog 3 (.int .i64 (j : Int)) = some (.int .i64 (j : Int)) := Maps.keyOf_int_mk Try.underlying3 (WalkArith.wf_i64 (by omega))
  obtain ⟨l, hm, hdr⟩ := h.map
  have hll : l.length < maxLen := by
    rw [hdr.length]
    have := h.ok.dlen
    simp only [maxLen]
    omega
  obtain ⟨w3, hrun, hm3, ht⟩ := hm.store (Maps.int_keyed Try.underlying3) Try.underlying27 hll hkey v
  obtain ⟨sv, hb2, hgg⟩ := h.blk
  have hx3 := mapTurned_ext ht
  have hk3 := mapTurned_keepT ht 5
  obtain ⟨hpg, hpm, hgm⟩ := h.ne
  obtain ⟨lp, lg, lm⟩ := h.lt
  refine ⟨w3, hrun, ⟨?_, ?_, ?_, fun k hk => Nat.lt_of_lt_of_le (h.low k hk) hx3.size, h.off⟩, ht⟩
  · obtain ⟨o1, o2, o3, o4, o5, o6, o7, o8, o9⟩ := h.ok
    refine ⟨o1, o2, o3, o4, o5, fun y hy => ?_, dput_sorted _ _ _ o7, o8, o9⟩
    rcases mem_dput hy with rfl | hy
    · exact ⟨hj, hl⟩
    · exact o6 y hy
  · obtain ⟨cap, cur, e, hg', h1, h2, h3, h4⟩ := hgg
    exact ⟨sv, (hx3.block p lp hpm).trans hb2, cap, cur, e, (hx3.block g lg hgm).trans hg', h1, h2, h3, fun i x hx => by obtain ⟨v, hv, hr⟩ := h4 i x hx; exact ⟨v, hv, hr.kept hk3⟩⟩
  · exact ⟨_, hm3, (hdr.kept hk3).put (hv.kept hk3)⟩
end

/-- A copy on the way: the entries that have come are in it. -/
structure CopyInv (X : Nat → Prop) (w : World) (p g m p' g' m' : Nat) (s : DS) (l : ME) (r : Nat) (wr : World) (left : Lit → Bool) (cnt : Nat) : Prop where
  disk : ∃ d, DiskAt X wr p' g' m' { s with dirty := d } ∧ ∀ q, q ∈ d ↔ q ∈ s.dirty ∧ left (.int .i64 (q.1 : Int)) = false
  rng : wr.ranges Try.prog 3 RV m r l.length (mD l) left cnt
  below : Below w.heap.size w wr
  p1 : w.heap.size ≤ p' ∧ w.heap.size ≤ g' ∧ w.heap.size ≤ m' ∧ w.heap.size ≤ r ∧ r ≠ p' ∧ r ≠ g' ∧ r ≠ m'

theorem CopyInv.start {w W w0 : World} {p g m g' m' c' : Nat} {s : DS} {l : ME} {vs : List Value} (h : DiskAt X w p g m s) (hdr : DRel X w s.size l s.dirty)
    (hvv : ∀ (i : Nat) (x : List UInt8), s.sure[i]? = some x → ∃ v, vs[i]? = some v ∧ RdX X w 5 1 v s.size (u8s x))
    (f1 : w.heap.size ≤ g') (f2 : w.heap.size ≤ m') (f3 : W.ownsRow w.heap.size 33 1 (.slice (some ⟨g', 0, none⟩) s.sure.length c') s.sure.length vs) (f4 : MapL Try.prog 3 W m' []) (f5 : Ext (fun _ => False) w W)
    (hrg : w0.ranges Try.prog 3 RV m (W.heap.size + 1) l.length (mD l) (Maps.has (mD l)) (Maps.size (mD l)))
    (hg0 : (W.alloc (.cells #[.slice (some ⟨g', 0, none⟩) s.sure.length c', .map (some m'), .int .i64 s.cut, .bool s.dead] 31)).grownBy w0 none) :
    CopyInv X w p g m W.heap.size g' m' s l (W.heap.size + 1) w0 (Maps.has (mD l)) (Maps.size (mD l)) := by
  have hx0 : Ext (fun _ => False) W w0 := ((Ext.refl _ W).alloc _).trans (Ext.of_grown hg0 (fun k e => by cases e))
  have hx := f5.trans hx0
  have hbox : w0.heap[W.heap.size]? = some (.cells #[.slice (some ⟨g', 0, none⟩) s.sure.length c', .map (some m'), .int .i64 s.cut, .bool s.dead] 31) :=
    (hg0.block _ (by simp) (by simp)).trans (heap_alloc_new W _)
  have f3' := own_keep f3 (hx0.keepT (fun _ _ _ _ => id))
  have f4' := f4.kept (hx0.block _ f4.lt id)
  have hlm := f4.lt
  refine ⟨⟨[], ⟨?_, ?_, ⟨[], f4', trivial⟩, fun k hk => Nat.lt_of_lt_of_le (h.low k hk) hx.size, ⟨fun a => by have := h.low _ a; have := f5.size; omega, fun a => by have := h.low _ a; omega, fun a => by have := h.low _ a; omega⟩⟩, fun q => ?_⟩, hrg, hx.below (fun _ _ e => e) (Nat.le_refl _), f5.size, f1, f2, by have := f5.size; omega, by omega, ?_, by omega⟩
  · obtain ⟨o1, o2, o3, o4, o5, o6, o7, o8, o9⟩ := h.ok
    exact ⟨o1, o2, o3, o4, o5, by simp, List.Pairwise.nil, o8, o9⟩
  · obtain ⟨hvl, e1 | ⟨gg, cap, cur, e1, _, hgg, k1, k2, k3, k4⟩⟩ := f3'
    · simp at e1
    · simp only [Value.slice.injEq, Option.some.injEq, Addr.mk.injEq, and_true, true_and] at e1
      obtain ⟨rfl, rfl⟩ := e1
      refine ⟨_, hbox, c', cur, rfl, hgg, k1, k2, by simpa using k3, fun i x hix => ?_⟩
      obtain ⟨v, hv, hr⟩ := hvv i x hix
      refine ⟨v, ?_, hr.kept (hx.keepT (fun _ _ _ _ => id))⟩
      have hil : i < s.sure.length := (List.getElem?_eq_some_iff.1 hix).1
      rw [← k4, List.getElem?_take_of_lt (by omega), Array.getElem?_toList] at hv
      exact hv
  · simp only [List.not_mem_nil, false_iff, not_and, Bool.not_eq_false]
    intro hq
    rw [mD_has]
    rcases hdr.get q.1 with ⟨x, v, _, e2, _⟩ | ⟨e1, _⟩
    · rw [e2]
      rfl
    · exfalso
      simp only [dget, Option.map_eq_none_iff, List.find?_eq_none] at e1
      exact e1 q hq (by simp)
  · obtain ⟨_, _ | ⟨gg, cap, cur, e1, _, hgg, _⟩⟩ := f3
    · rename_i e1
      simp at e1
    · simp only [Value.slice.injEq, Option.some.injEq, Addr.mk.injEq, and_true, true_and] at e1
      obtain ⟨rfl, _⟩ := e1
      have := lt_of_heap hgg
      omega

theorem CopyInv.step {w wr w1 : World} {p g m p' g' m' r : Nat} {s : DS} {l : ME} {left : Lit → Bool} {cnt cnt1 : Nat} {x : Int} {c : Value} (h : DiskAt X w p g m s) (hdr : DRel X w s.size l s.dirty)
    (hI : CopyInv X w p g m p' g' m' s l r wr left cnt) (hlk : left (.int .i64 x) = true) (hat : lget l (.int .i64 x) = some c)
    (hrg1 : w1.ranges Try.prog 3 RV m r l.length (mD l) (fun z => left z && !z.sameKey (.int .i64 x)) cnt1) (hg1 : wr.grownBy w1 (some r)) :
    w1.drew.cell? ⟨p', 1, none⟩ = some (.map (some m')) ∧ Calls Try.prog 42 #[c] w1.drew fun e w2 => ∃ v', e = .returned v' ∧ w2.cell? ⟨p', 1, none⟩ = some (.map (some m')) ∧
      ∃ w3, (Instr.mapUpdate 27 (.map (some m')) (.int .i64 x) v').run Try.prog w2 = .ok () w3 ∧ Hid (CopyInv X w p g m p' g' m' s l r w3 (fun z => left z && !z.sameKey (.int .i64 x)) cnt1) := by
  obtain ⟨⟨d, hd, hdm⟩, hrg, hbl, b1, b2, b3, b4, n1, n2, n3⟩ := hI
  obtain ⟨q, hq, rfl, hr⟩ := hdr.inv hat
  have hqz := h.ok.dz q hq
  have hZ := h.ok.z2
  obtain ⟨lp', lg', lm'⟩ := hd.lt
  have hk1 : KeepT 5 wr w1 := by
    intro b cur fr hb
    refine (hg1.block b (lt_of_heap hb) ?_).trans hb
    intro e
    cases e
    obtain ⟨_, _, _, _, _, _, _, _, _, hrr, _⟩ := hrg
    rw [hrr] at hb
    cases hb
  have hd1 : DiskAt X w1 p' g' m' { s with dirty := d } := hd.kept (hg1.block _ lp' (by simpa using Ne.symm n1)) (hg1.block _ lg' (by simpa using Ne.symm n2)) (hg1.block _ lm' (by simpa using Ne.symm n3)) hg1.size (.of hk1)
  have hr1 : RdX X w1 5 1 c s.size (u8s q.2) := (hr.kept (fun b cur fr hb => (hbl.block b (lt_of_heap hb)).trans hb)).kept hk1
  have hc1 : w1.cell? ⟨p', 1, none⟩ = some (.map (some m')) := by
    obtain ⟨sv, hb, _⟩ := hd1.blk
    rw [cell_of_block hb]
    rfl
  refine ⟨hc1, ?_⟩
  refine (cloneB_any (w := w1.drew) (hr1.1.kept (fun _ _ _ h => h)) (u8s_oneCell q.2) (by omega)).mono ?_
  rintro e w2 ⟨v', rfl, ho, hb⟩
  have hx2 : Ext (fun _ => False) w1 w2 := (Ext.refl _ w1).drew.trans (Ext.of_below hb (Nat.le_refl _))
  have hd2 := hd1.kept_ext hx2 id id id (hx2.keepT (fun _ _ _ _ => id))
  obtain ⟨w3, hrun, hd3, ht⟩ := hd2.store (j := q.1) (b := q.2) (RdX.of_own ho hd1.low) hqz.1
  refine ⟨v', rfl, ?_, w3, hrun, ?_⟩
  · obtain ⟨sv, hb, _⟩ := hd2.blk
    rw [cell_of_block hb]
    rfl
  · have hs1 := hbl.size
    have hs2 := hg1.size
    have hx3 := mapTurned_ext ht
    refine ⟨⟨dput d q.1 q.2, hd3, fun y => ?_⟩, ?_, ?_, b1, b2, b3, b4, n1, n2, n3⟩
    · rw [mem_dput_iff, hdm]
      simp only [Bool.and_eq_false_iff, sameKey_int, Bool.not_eq_false', decide_eq_true_eq]
      constructor
      · rintro (rfl | ⟨⟨h1, h2⟩, h3⟩)
        · exact ⟨hq, .inr rfl⟩
        · exact ⟨h1, .inl h2⟩
      · rintro ⟨h1, h2⟩
        by_cases e : y.1 = q.1
        · left
          have := dget_of_mem h.ok.ds h1
          have h4 := dget_of_mem h.ok.ds hq
          rw [e, h4] at this
          cases y
          cases q
          simp_all
        · exact .inr ⟨⟨h1, h2.resolve_right (by omega)⟩, e⟩
    · have hrg2 := hrg1.kept (row := none) (w' := w2) ⟨hx2.os, hx2.tape, hx2.output, hx2.size, fun k hk _ => hx2.block k hk id⟩ (by simp) (by simp)
      exact hrg2.kept ht.grown (by have := h.lt.2.2; simp; omega) (by simpa using n3)
    · have q1 : Below w.heap.size w w1 := hbl.grown hg1 hs1 (fun k e => by cases e; exact b4)
      exact (q1.trans (hx2.below (fun _ _ e => e) (by omega))).grown ht.grown (by have := hx2.size; omega) (fun k e => by cases e; exact b3)

set_option maxRecDepth 100000 in
set_option maxHeartbeats 2000000 in
theorem copy_any {w : World} {p g m : Nat} {s : DS} (h : DiskAt X w p g m s) : Calls Try.prog 20 #[.pointer (some ⟨p, 0, none⟩)] w fun e w' =>
    ∃ p' g' m', e = .returned (.pointer (some ⟨p', 0, none⟩)) ∧ w.heap.size ≤ p' ∧ w.heap.size ≤ g' ∧ w.heap.size ≤ m' ∧ DiskAt X w' p' g' m' s ∧ Below w.heap.size w w' := by
  obtain ⟨lp, lg, lm⟩ := h.lt
  have hH := Lib.hid h
  obtain ⟨sv, hb, cp, cur, rfl, hg, k1, k2, k3, hsec⟩ := h.blk
  obtain ⟨l, hm, hdr⟩ := h.map
  obtain ⟨vs, hvs⟩ : ∃ vs, cur.toList.take s.sure.length = vs := ⟨_, rfl⟩
  have hvl : vs.length = s.sure.length := by rw [← hvs, List.length_take, Array.length_toList]; omega
  have hN2 := h.ok.n2
  have hN1 := h.ok.n1
  have hrow : Rd w 33 1 (.slice (some ⟨g, 0, none⟩) s.sure.length cp) s.sure.length vs :=
    ⟨by omega, by simp only [maxLen]; omega, cp, .inr ⟨g, 0, rfl, k1, .inr ⟨cur, (0, 0), hg, by simpa using hvs⟩⟩⟩
  have hvv : ∀ (i : Nat) (x : List UInt8), s.sure[i]? = some x → ∃ v, vs[i]? = some v ∧ RdX X w 5 1 v s.size (u8s x) := by
    intro i x hx
    obtain ⟨v, hv, hr⟩ := hsec i x hx
    refine ⟨v, ?_, hr⟩
    rw [← hvs, List.getElem?_take_of_lt (List.getElem?_eq_some_iff.1 hx).1, Array.getElem?_toList]
    exact hv
  have hone : ∀ u ∈ vs, u.oneCell' = true := by
    intro u hu
    obtain ⟨i, hi, hiu⟩ := List.getElem_of_mem hu
    obtain ⟨v, hv, hr⟩ := hvv i _ (List.getElem?_eq_getElem (show i < s.sure.length by omega))
    rw [List.getElem?_eq_getElem hi, hiu] at hv
    cases hv
    obtain ⟨a, c, rfl⟩ := hr.form
    rfl
  have hcl : ∀ W, Ext (fun _ => False) w W → Calls Try.prog 43 #[.slice (some ⟨g, 0, none⟩) s.sure.length cp] W fun e W' => ∃ g' c', e = .returned (.slice (some ⟨g', 0, none⟩) s.sure.length c') ∧
      Hid (W.heap.size ≤ g') ∧ Hid (W'.ownsRow W.heap.size 33 1 (.slice (some ⟨g', 0, none⟩) s.sure.length c') s.sure.length vs) ∧ Hid (Ext (fun _ => False) W W') := by
    intro W hx
    refine (cloneBs_any (hrow.kept (hx.keepT (fun _ _ _ _ => id))) hone (by omega)).mono ?_
    rintro e W' ⟨v', rfl, ho, hbl⟩
    obtain ⟨g', c', rfl, hge, _⟩ := ho.form (by omega)
    exact ⟨g', c', rfl, hge, ho, Ext.of_below hbl (Nat.le_refl _)⟩
  have HCL := Lib.hid hcl
  have hcells : ∀ W, Ext (fun _ => False) w W → W.cell? ⟨p, 0, none⟩ = some (.slice (some ⟨g, 0, none⟩) s.sure.length cp) ∧ W.cell? ⟨p, 2, none⟩ = some (.int .i64 s.cut) ∧ W.cell? ⟨p, 3, none⟩ = some (.bool s.dead) := by
    intro W hx
    have hbW := (hx.block p lp id).trans hb
    exact ⟨by rw [cell_of_block hbW]; rfl, by rw [cell_of_block hbW]; rfl, by rw [cell_of_block hbW]; rfl⟩
  have HCE := Lib.hid hcells
  have HM := Lib.hid hm
  have HDR := Lib.hid hdr
  have HVV := Lib.hid hvv
  have hmm := @run_makeMap Try.prog
  have hS0 := hcells w.drew (Ext.refl _ w).drew
  have hE0 := Lib.hid ((Ext.refl (fun _ => False) w).drew)
  clear hcl hcells hm hdr hvv hrow hsec hb hg h hone
  go_enter Try.func20, Try.ntmps20
  go_wp2_with fail
  refine region_X (fun W => W.cell? ⟨p, 0, none⟩ = some (.slice (some ⟨g, 0, none⟩) s.sure.length cp) ∧ W.cell? ⟨p, 2, none⟩ = some (.int .i64 s.cut) ∧ W.cell? ⟨p, 3, none⟩ = some (.bool s.dead)) (by kernel_rfl) ?_
  simp only [List.length_cons, List.length_nil, Nat.reduceAdd]
  refine AnyX.take 0 rfl (by kernel_rfl) (fun _ _ _ h => h) hS0 rfl (by rintro W ⟨s0, s1, s2⟩; go_simp; rfl) ?_; simp only [Act.put, List.setIfInBounds_toArray, List.set_cons_succ, List.set_cons_zero]
  refine AnyX.take 1 rfl (by kernel_rfl) (fun _ _ _ h => h) hS0 rfl (by rintro W ⟨s0, s1, s2⟩; go_simp; rfl) ?_; simp only [Act.put, List.setIfInBounds_toArray, List.set_cons_succ, List.set_cons_zero]
  refine AnyX.take 2 rfl (by kernel_rfl) (fun _ _ _ h => h) hS0 rfl (by rintro W ⟨s0, s1, s2⟩; go_simp; rfl) ?_; simp only [Act.put, List.setIfInBounds_toArray, List.set_cons_succ, List.set_cons_zero]
  refine AnyX.take 3 rfl (by kernel_rfl) (fun _ _ _ h => h) hS0 rfl (by rintro W ⟨s0, s1, s2⟩; go_simp; rfl) ?_; simp only [Act.put, List.setIfInBounds_toArray, List.set_cons_succ, List.set_cons_zero]
  refine AnyX.take 4 rfl (by kernel_rfl) (fun _ _ _ h => h) hS0 rfl (by rintro W ⟨s0, s1, s2⟩; go_simp; rfl) ?_; simp only [Act.put, List.setIfInBounds_toArray, List.set_cons_succ, List.set_cons_zero]
  refine AnyX.take 8 rfl (by kernel_rfl) (fun _ _ _ h => h) hS0 rfl (by rintro W ⟨s0, s1, s2⟩; go_simp; rfl) ?_; simp only [Act.put, List.setIfInBounds_toArray, List.set_cons_succ, List.set_cons_zero]
  refine AnyX.take 9 rfl (by kernel_rfl) (fun _ _ _ h => h) hS0 rfl (by rintro W ⟨s0, s1, s2⟩; go_simp; rfl) ?_; simp only [Act.put, List.setIfInBounds_toArray, List.set_cons_succ, List.set_cons_zero]
  refine AnyX.take 10 rfl (by kernel_rfl) (fun _ _ _ h => h) hS0 rfl (by rintro W ⟨s0, s1, s2⟩; go_simp; rfl) ?_; simp only [Act.put, List.setIfInBounds_toArray, List.set_cons_succ, List.set_cons_zero]
  refine AnyX.take 11 rfl (by kernel_rfl) (fun _ _ _ h => h) hS0 rfl (by rintro W ⟨s0, s1, s2⟩; go_simp; rfl) ?_; simp only [Act.put, List.setIfInBounds_toArray, List.set_cons_succ, List.set_cons_zero]
  refine AnyX.take 12 rfl (by kernel_rfl) (fun _ _ _ h => h) hS0 rfl (by rintro W ⟨s0, s1, s2⟩; go_simp; rfl) ?_; simp only [Act.put, List.setIfInBounds_toArray, List.set_cons_succ, List.set_cons_zero]
  refine AnyX.take 13 rfl (by kernel_rfl) (fun _ _ _ h => h) hS0 rfl (by rintro W ⟨s0, s1, s2⟩; go_simp; rfl) ?_; simp only [Act.put, List.setIfInBounds_toArray, List.set_cons_succ, List.set_cons_zero]
  refine AnyX.take 14 rfl (by kernel_rfl) (fun _ _ _ h => h) hS0 rfl (by rintro W ⟨s0, s1, s2⟩; go_simp; rfl) ?_; simp only [Act.put, List.setIfInBounds_toArray, List.set_cons_succ, List.set_cons_zero]
  refine AnyX.take 15 rfl (by kernel_rfl) (fun _ _ _ h => h) hS0 rfl (by rintro W ⟨s0, s1, s2⟩; go_simp; rfl) ?_; simp only [Act.put, List.setIfInBounds_toArray, List.set_cons_succ, List.set_cons_zero]
  refine AnyX.act2 5 6 rfl rfl (by kernel_rfl) rfl rfl (fun K hK => ?_) (fun K hK => ?_)
  go_wp2_with (go_at_call 43; refine (HCL.out _ hE0.out).mono ?_; rintro e W1 ⟨g', c', rfl, hge, ho, hx⟩)
  refine hK _ _ (HCE.out _ (hE0.out.trans hx.out)) ?_
  clear hK K
  refine AnyX.act 6 rfl (by kernel_rfl) rfl (fun K hK => ?_)
  go_wp2
  have hF : w.heap.size ≤ g' ∧ w.heap.size ≤ W1.heap.size ∧ (W1.alloc (.map #[] 0)).ownsRow w.heap.size 33 1 (.slice (some ⟨g', 0, none⟩) s.sure.length c') s.sure.length vs ∧ MapL Try.prog 3 (W1.alloc (.map #[] 0)) W1.heap.size [] ∧ Ext (fun _ => False) w (W1.alloc (.map #[] 0)) :=
    ⟨hge.out, (hE0.out.trans hx.out).size, ho.out.alloc _, MapL.made _ _ _, (hE0.out.trans hx.out).alloc _⟩
  refine hK _ _ (HCE.out _ hF.2.2.2.2) ?_
  clear hK K
  have HF := Lib.hid hF
  clear hF hge ho hx
  generalize W1.alloc (.map #[] 0) = W at *
  generalize W1.heap.size = m' at *
  rotate_left
  go_wp2
  have hE1 : Ext (fun _ => False) w (w.alloc (.map #[] 0)).drew := ((Ext.refl _ w).alloc _).drew
  refine hK _ _ (HCE.out _ hE1) ?_
  clear hK K
  refine AnyX.act 5 rfl (by kernel_rfl) rfl (fun K hK => ?_)
  go_wp2_with (go_at_call 43; refine (HCL.out _ hE1).mono ?_; rintro e W ⟨g', c', rfl, hge, ho, hx⟩)
  obtain ⟨m', hm'⟩ : ∃ m', w.heap.size = m' := ⟨_, rfl⟩
  have hF : w.heap.size ≤ g' ∧ w.heap.size ≤ m' ∧ W.ownsRow w.heap.size 33 1 (.slice (some ⟨g', 0, none⟩) s.sure.length c') s.sure.length vs ∧ MapL Try.prog 3 W m' [] ∧ Ext (fun _ => False) w W := by
    have hsz : (w.alloc (.map #[] 0)).drew.heap.size = w.heap.size + 1 := by
      show (w.alloc _).heap.size = _
      simp
    refine ⟨by have := hge.out; omega, by omega, own_mono ho.out (by omega), ?_, hE1.trans hx.out⟩
    rw [← hm']
    exact (MapL.made w Try.prog 3).kept (hx.out.block _ (by omega) id)
  refine hK _ _ (HCE.out _ hF.2.2.2.2) ?_
  clear hK K
  have HF := Lib.hid hF
  rw [show Value.map (some w.heap.size) = Value.map (some m') by rw [hm']]
  clear hF hge ho hx hE1 hm'
  rotate_left
  all_goals
    obtain ⟨f1, f2, f3, f4, f5⟩ := HF.out
    have hS2 := HCE.out _ f5
    clear f1 f2 f3 f4 f5
    refine AnyX.take 7 rfl (by kernel_rfl) (fun _ _ _ h => h) hS2 rfl (by rintro W ⟨s0, s1, s2⟩; go_simp; rfl) ?_; simp only [Act.put, List.setIfInBounds_toArray, List.set_cons_succ, List.set_cons_zero]
    refine AnyX.take 16 rfl (by kernel_rfl) (fun _ _ _ h => h) hS2 rfl (by rintro W ⟨s0, s1, s2⟩; go_simp; rfl) ?_; simp only [Act.put, List.setIfInBounds_toArray, List.set_cons_succ, List.set_cons_zero]
    refine AnyX.act 17 rfl (by kernel_rfl) rfl (fun K hK => ?_)
    go_wp2
    obtain ⟨f1, f2, f3, f4, f5⟩ := HF.out
    refine hK _ _ (HCE.out _ (f5.alloc _)) ?_
    clear hK K
    refine AnyX.end_ 18 rfl (by kernel_rfl) (by kernel_rfl) (by kernel_rfl) rfl ?_
    have hown := (HM.out).kept (w1 := W.alloc (.cells #[.slice (some ⟨g', 0, none⟩) s.sure.length c', .map (some m'), .int .i64 s.cut, .bool s.dead] 31)) ((f5.alloc _).block _ lm id)
    have hcm := (HCE.out _ (f5.alloc (.cells #[.slice (some ⟨g', 0, none⟩) s.sure.length c', .map (some m'), .int .i64 s.cut, .bool s.dead] 31)))
    have hc1 : (W.alloc (.cells #[.slice (some ⟨g', 0, none⟩) s.sure.length c', .map (some m'), .int .i64 s.cut, .bool s.dead] 31)).cell? ⟨p, 1, none⟩ = some (.map (some m)) := by
      obtain ⟨sv, hb, _⟩ := hH.out.blk
      rw [cell_of_block (((f5.alloc _).block p lp id).trans hb)]
      rfl
    have HO := Lib.hid hown
    clear hS2 f1 f2 f3 f4 f5 hown hcm
    go_wp2_with (at_range; refine wpList_range_own _ rfl _ 27 rfl 3 33 (Maps.int_keyed Try.underlying3) Try.underlying27 RV m l.length (mD l) rfl HO.out ?_; intro w0 hrg0 hg0 hs0)
    go_frame
    rw [World.size_alloc] at hrg0 ⊢
    obtain ⟨f1, f2, f3, f4, f5⟩ := HF.out
    have hst := CopyInv.start hH.out HDR.out HVV.out f1 f2 f3 f4 f5 hrg0 hg0
    have HST := Lib.hid hst
    clear hst f1 f2 f3 f4 f5 hrg0 hg0 hc1
    go_loopw [4] (fun _ wr => ∃ (left : Lit → Bool) (cnt : Nat), Hid (CopyInv X w p g m W.heap.size g' m' s l (W.heap.size + 1) wr left cnt)) (fun _ wr => wr.rangeLeft m (W.heap.size + 1))
    case atStart => exact ⟨_, _, HST⟩
    case round =>
      obtain ⟨left, cnt, hin⟩ := hrel
      have hrg := hin.out.rng
      go_wp2_with (at_next; refine wpList_next_ranges _ rfl _ rfl 3 (Maps.int_keyed Try.underlying3) RV (Value.int .i64) (fun v : Value => v) (fun key kl hkey => by obtain ⟨x, rfl, _⟩ := Maps.keyOf_int_inv Try.underlying3 hkey; exact ⟨x, rfl⟩) (fun v y _ => ⟨v, rfl⟩) m (W.heap.size + 1) l.length (mD l) left cnt rfl hrg ?_ ?_)
      · intro _ hl0
        have hfin : DiskAt X wr W.heap.size g' m' s ∧ w.heap.size ≤ W.heap.size ∧ w.heap.size ≤ g' ∧ w.heap.size ≤ m' ∧ Below w.heap.size w wr := by
          obtain ⟨⟨d, hd, hdm⟩, _, hbl, b1, b2, b3, _⟩ := hin.out
          obtain rfl : d = s.dirty := sorted_ext _ _ hd.ok.ds hH.out.ok.ds (fun q => by rw [hdm]; simp [hl0])
          exact ⟨hd, b1, b2, b3, hbl⟩
        have HFI := Lib.hid hfin
        clear hfin hrg
        go_wp2
        go_ret
        obtain ⟨q1, q2, q3, q4, q5⟩ := HFI.out
        exact ⟨_, g', m', rfl, q2, q3, q4, q1, q5⟩
      · intro x c kl yd yp w1 cnt1 hkey hlk hv hat hrg1 hlt hg1 hs1 hen
        obtain ⟨x', ex, rfl, hwx⟩ := Maps.keyOf_int_inv Try.underlying3 hkey
        cases ex
        simp only [RV, Option.some.injEq, Prod.mk.injEq] at hv
        obtain ⟨rfl, rfl⟩ := hv
        have hlg : lget l (.int .i64 x) = some c := by
          have h1 := hat (.held (.bool true))
          have h2 := hat (.held (.bool false))
          rw [mD_atKey] at h1 h2
          cases hl : lget l (.int .i64 x) with
          | none => rw [hl] at h1 h2; simp at h1 h2; rw [← h1] at h2; cases h2
          | some v => rw [hl] at h1; simp at h1; rw [h1]
        obtain ⟨hS3, hstep⟩ := CopyInv.step hH.out HDR.out hin.out hlk hlg hrg1 hg1
        have HSP := Lib.hid hstep
        have HLT := Lib.hid hlt
        clear hstep hrg hkey hlk hat hrg1 hlt hg1 hs1 hlg hwx
        go_wp2_with fail
        refine region_X (fun W' => W'.cell? ⟨W.heap.size, 1, none⟩ = some (.map (some m'))) (by kernel_rfl) ?_
        simp only [List.length_cons, List.length_nil, Nat.reduceAdd]
        refine AnyX.take 0 rfl (by kernel_rfl) (fun _ _ _ h => h) hS3 rfl (by intro W hW; go_simp; rfl) ?_; simp only [Act.put, List.setIfInBounds_toArray, List.set_cons_succ, List.set_cons_zero]
        refine AnyX.take 1 rfl (by kernel_rfl) (fun _ _ _ h => h) hS3 rfl (by intro W hW; go_simp; rfl) ?_; simp only [Act.put, List.setIfInBounds_toArray, List.set_cons_succ, List.set_cons_zero]
        refine AnyX.take 2 rfl (by kernel_rfl) (fun _ _ _ h => h) hS3 rfl (by intro W hW; go_simp; rfl) ?_; simp only [Act.put, List.setIfInBounds_toArray, List.set_cons_succ, List.set_cons_zero]
        refine AnyX.take 3 rfl (by kernel_rfl) (fun _ _ _ h => h) hS3 rfl (by intro W hW; go_simp; rfl) ?_; simp only [Act.put, List.setIfInBounds_toArray, List.set_cons_succ, List.set_cons_zero]
        refine AnyX.take 4 rfl (by kernel_rfl) (fun _ _ _ h => h) hS3 rfl (by intro W hW; go_simp; rfl) ?_; simp only [Act.put, List.setIfInBounds_toArray, List.set_cons_succ, List.set_cons_zero]
        refine AnyX.take 5 rfl (by kernel_rfl) (fun _ _ _ h => h) hS3 rfl (by intro W hW; go_simp; rfl) ?_; simp only [Act.put, List.setIfInBounds_toArray, List.set_cons_succ, List.set_cons_zero]
        refine AnyX.take 6 rfl (by kernel_rfl) (fun _ _ _ h => h) hS3 rfl (by intro W hW; go_simp; rfl) ?_; simp only [Act.put, List.setIfInBounds_toArray, List.set_cons_succ, List.set_cons_zero]
        refine AnyX.act 7 rfl (by kernel_rfl) rfl (fun K hK => ?_)
        go_wp2_with (go_at_call 42; refine HSP.out.mono ?_; rintro e w2 ⟨v', rfl, hS4, w3, hrun, hfin⟩)
        refine hK _ _ hS4 ?_
        clear hK K
        refine AnyX.end_ 8 rfl (by kernel_rfl) (by kernel_rfl) (by kernel_rfl) rfl ?_
        go_wp2
        go_roundw
        case rel => exact ⟨_, _, hfin⟩
        case measure => rw [hfin.out.rng.left_eq, hin.out.rng.left_eq]; exact HLT.out
end Go.Proofs.Ytekolejeliefdaa
