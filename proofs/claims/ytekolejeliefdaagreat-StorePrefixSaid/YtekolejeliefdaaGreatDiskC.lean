/- The disk: settle, Flush, Crash. -/
import Derived.Test.YtekolejeliefdaaGreatShelfB
import Derived.Test.YtekolejeliefdaaGreatRegion
import Derived.Deep.LoopGhost
set_option linter.unusedVariables false
set_option linter.unusedSimpArgs false
namespace Go.Proofs.YtekolejeliefdaaGreat
open Go.RowKit
variable {X : Nat → Prop}

/-- The sectors behind k of the written ones, each settled as f says. -/
def stk (f : Nat → List UInt8 → List UInt8 → List UInt8) (d : List (Nat × List UInt8)) (sure : List (List UInt8)) : Nat → List (List UInt8)
  | 0 => sure
  | k + 1 => match d[k]? with
    | some q => (stk f d sure k).set q.1 (f k ((stk f d sure k).getD q.1 []) q.2)
    | none => stk f d sure k
theorem stk_length (f : Nat → List UInt8 → List UInt8 → List UInt8) (d : List (Nat × List UInt8)) (sure : List (List UInt8)) : ∀ k, (stk f d sure k).length = sure.length
  | 0 => rfl
  | k + 1 => by
    unfold stk
    split
    · simp [stk_length f d sure k]
    · exact stk_length f d sure k

theorem dget_sorted : ∀ {d : List (Nat × List UInt8)} {k : Nat} {q : Nat × List UInt8}, d.Pairwise (fun p q => p.1 < q.1) → d[k]? = some q → dget d q.1 = some q.2
  | y :: d, 0, q, _, h => by
    simp only [List.getElem?_cons_zero, Option.some.injEq] at h
    subst h
    simp [dget_cons]
  | y :: d, k + 1, q, hp, h => by
    rw [List.pairwise_cons] at hp
    simp only [List.getElem?_cons_succ] at h
    have := hp.1 q (List.mem_of_getElem? h)
    rw [dget_cons, if_neg (by omega)]
    exact dget_sorted hp.2 h

section
variable {w w1 : World} {p g m : Nat} {s : DS}
theorem DiskAt.setSure (h : DiskAt X w p g m s) {i : Nat} {v : Value} {x : List UInt8} (hv : RdX X w 5 1 v s.size (u8s x)) (hi : i < s.sure.length) :
    DiskAt X (w.setCell ⟨g, i, none⟩ v) p g m { s with sure := s.sure.set i x } := by
  obtain ⟨hpg, hpm, hgm⟩ := h.ne
  have hx : x.length = s.size := by have := hv.1.1; simpa [u8s] using this
  have hk : KeepT 5 w (w.setCell ⟨g, i, none⟩ v) := by
    obtain ⟨sv, hb, cap, cur, e, hg', _⟩ := h.blk
    intro b cur' fr hq
    rw [heap_setCell_ne (by intro e; subst e; simp [hg'] at hq)]
    exact hq
  obtain ⟨o1, o2, o3, o4, o5, o6, o7, o8, o9⟩ := h.ok
  refine ⟨⟨by simpa using o1, by simpa using o2, o3, o4, fun y hy => ?_, fun y hy => by simpa using o6 y hy, o7, o8, o9⟩, ?_, ?_, fun k hk => by simpa [World.setCell] using h.low k hk, h.off⟩
  · rcases List.mem_or_eq_of_mem_set hy with hy | rfl
    · exact o5 y hy
    · exact hx
  · obtain ⟨sv, hb, cap, cur, e, hg', h1, h2, h3, h4⟩ := h.blk
    refine ⟨sv, ?_, cap, cur.setIfInBounds i v, by simpa using e, heap_setCell_at hg' v, by simpa using h1, h2, by simpa using h3, fun j y hj => ?_⟩
    · rw [heap_setCell_ne hpg]; exact hb
    · by_cases hij : i = j
      · subst hij
        simp only [List.getElem?_set_self hi, Option.some.injEq] at hj
        subst hj
        refine ⟨v, ?_, hv.kept hk⟩
        rw [Array.getElem?_setIfInBounds_self_of_lt (by omega)]
      · simp only [List.getElem?_set_ne hij] at hj
        obtain ⟨u, hu, hr⟩ := h4 j y hj
        exact ⟨u, by rw [Array.getElem?_setIfInBounds_ne hij]; exact hu, hr.kept hk⟩
  · obtain ⟨l, h1, h2⟩ := h.map
    exact ⟨l, h1.kept (heap_setCell_ne (Ne.symm hgm) _), h2.kept hk⟩

theorem DiskAt.cleared {cl : Nat} (h : DiskAt X w p g m s) (hm : MapL Tryz.prog 3 w1 m []) (ht : w.mapTurned w1 m) : DiskAt X w1 p g m { s with dirty := [] } := by
  obtain ⟨hpg, hpm, hgm⟩ := h.ne
  obtain ⟨lp, lg, lm⟩ := h.lt
  have hx := mapTurned_ext ht
  have hk := mapTurned_keepT ht 5
  obtain ⟨o1, o2, o3, o4, o5, o6, o7, o8, o9⟩ := h.ok
  refine ⟨⟨o1, o2, o3, o4, o5, by simp, List.Pairwise.nil, o8, o9⟩, ?_, ⟨[], hm, trivial⟩, fun k hk => Nat.lt_of_lt_of_le (h.low k hk) hx.size, h.off⟩
  obtain ⟨sv, hb, cap, cur, e, hg', h1, h2, h3, h4⟩ := h.blk
  refine ⟨sv, (hx.block p lp hpm).trans hb, cap, cur, e, (hx.block g lg hgm).trans hg', h1, h2, h3, fun i x hx => ?_⟩
  obtain ⟨v, hv, hr⟩ := h4 i x hx
  exact ⟨v, hv, hr.kept hk⟩
end

set_option maxRecDepth 100000 in
set_option maxHeartbeats 4000000 in
/-- settle, whatever the closure says, as long as it turns nothing that lay there. -/
theorem settle_any {w : World} {p g m : Nat} {s : DS} (h : DiskAt X w p g m s) (fn : Nat) (cap : Array Value) (f : Nat → List UInt8 → List UInt8 → List UInt8) (J : World → Prop)
    (hJ : ∀ W W', J W → Ext (· = g) W W' → J W') (hJ0 : J w)
    (hen : ∀ args w, (callFunc fn args).run Tryz.prog w = .ok (.enter fn args) w)
    (hcl : ∀ (W : World) (k : Nat) (v1 v2 : Value) (x y : List UInt8), J W → k < 4096 → RdX X W 5 1 v1 s.size (u8s x) → RdX X W 5 1 v2 s.size (u8s y) →
      Calls Tryz.prog fn (#[.int .i64 k, v1, v2] ++ cap) W fun e W' => ∃ v, e = .returned v ∧ RdX X W' 5 1 v s.size (u8s (f k x y)) ∧ Ext (fun _ => False) W W') :
    Calls Tryz.prog 178 #[.pointer (some ⟨p, 0, none⟩), .func (.func fn) #[] cap] w fun e w' =>
      e = .returned (.tuple #[]) ∧ DiskAt X w' p g m { s with sure := stk f s.dirty s.sure s.dirty.length, dirty := [] } ∧ Ext (fun k => k = g ∨ k = m) w w' := by
  have hlt := h.lt
  obtain ⟨hpg, hpm, hgm⟩ := h.ne
  have hdl := h.ok.dlen
  obtain ⟨sv, hb, cp, cur, rfl, hg, _⟩ := h.blk
  obtain ⟨l, hm, hdr⟩ := h.map
  have hll := hdr.length
  have c0 := cell_of_block hb 0
  have c1 := cell_of_block hb 1
  simp at c0 c1
  have hK := hdr.keys
  have hS := sorted_keys s.dirty h.ok.ds
  have HK : ∀ W : World, W.cell? ⟨p, 1, none⟩ = some (.map (some m)) → True := fun _ _ => trivial
  clear HK
  have HS : Calls Tryz.prog 187 #[.func (.func 192) #[] #[.pointer (some ⟨w.heap.size, 0, none⟩)]] (w.alloc (.cells #[.map (some m)] 107)) fun e w' => ∃ b cc, e = .returned (.slice b s.dirty.length cc) ∧
      Hid (w'.ownsRow w.heap.size 3 1 (.slice b s.dirty.length cc) s.dirty.length (s.dirty.map (fun q => Value.int .i64 q.1))) ∧ Hid (Ext (fun _ => False) w w') := by
    refine (sorted_any (w := w.alloc (.cells #[.map (some m)] 107)) (m := m) (k := w.heap.size) (l := l) (hm.kept (heap_alloc_lt hlt.2.2)) ?_ (by simp) (by omega)).mono ?_
    · rw [cell_of_block (heap_alloc_new w _)]
      rfl
    · rintro e w' ⟨v, rfl, ho, hb'⟩
      rw [hK, hS, hll, List.map_map] at ho
      have ho' : w'.ownsRow w.heap.size 3 1 v s.dirty.length (s.dirty.map (fun q => Value.int .i64 q.1)) := by
        obtain ⟨h1, h2⟩ := ho
        refine ⟨h1, ?_⟩
        rcases h2 with h2 | ⟨gg, a1, a2, a3, a4, a5⟩
        · exact .inl h2
        · exact .inr ⟨gg, a1, a2, a3, by simp at a4; omega, a5⟩
      obtain ⟨a, c, rfl⟩ := (Rd.of_own ho').form
      exact ⟨a, c, rfl, ho', ((Ext.refl _ w).alloc _).trans (Ext.of_below hb' (Nat.le_refl _))⟩
  have HS' := Lib.hid HS
  have hkeys := keys_any (some m) w
  have HKe := Lib.hid hkeys
  have HH := Lib.hid h
  have HJ0 := Lib.hid hJ0
  clear HS hkeys hb hg hm hdr hK hS h hJ0
  go_enter Tryz.func178, Tryz.ntmps178
  go_wp2_with (first | (go_at_call 188; refine HKe.out.mono ?_; rintro e w' ⟨rfl, rfl⟩) | (go_at_call 187; refine HS'.out.mono ?_; rintro e w' ⟨b, cc, rfl, ho, hx⟩))
  have hbf : s.dirty.length = 0 ∨ ∃ gg, b = some ⟨gg, 0, none⟩ := by
    rcases Nat.eq_zero_or_pos s.dirty.length with h0 | h0
    · exact .inl h0
    · obtain ⟨gg, c', e1, _⟩ := ho.out.form h0
      simp only [Value.slice.injEq] at e1
      exact .inr ⟨gg, e1.1⟩
  have HBF := Lib.hid hbf
  have hinv0 : DiskAt X w' p g m { s with sure := stk f s.dirty s.sure 0 } ∧ w'.ownsRow w.heap.size 3 1 (.slice b s.dirty.length cc) s.dirty.length (s.dirty.map (fun q => Value.int .i64 q.1)) ∧ J w' ∧ Ext (· = g) w w' := by
    refine ⟨HH.out.kept_ext hx.out id id id (hx.out.keepT (fun _ _ _ _ => id)), ho.out, hJ _ _ HJ0.out (hx.out.mono (fun _ _ e => e.elim)), hx.out.mono (fun _ _ e => e.elim)⟩
  have HI0 := Lib.hid hinv0
  clear hbf hinv0 ho hx
  go_loopw [13] (fun t wr => ∃ k : Nat, k ≤ s.dirty.length ∧ t = .int .i64 k ∧ Hid (DiskAt X wr p g m { s with sure := stk f s.dirty s.sure k } ∧ wr.ownsRow w.heap.size 3 1 (.slice b s.dirty.length cc) s.dirty.length (s.dirty.map (fun q => Value.int .i64 q.1)) ∧ J wr ∧ Ext (· = g) w wr))
    (fun t _ => s.dirty.length - (intOf t).toNat)
  case atStart => exact ⟨0, Nat.zero_le _, rfl, HI0⟩
  case round =>
    obtain ⟨k, hk, rfl, hinv⟩ := hrel
    by_cases hlt : k < s.dirty.length
    · obtain ⟨hd, ho, hj, hx⟩ := hinv.out
      obtain ⟨gg, rfl⟩ := HBF.out.resolve_left (by omega)
      have hq := List.getElem?_eq_getElem hlt
      generalize s.dirty[k] = q at hq
      have hq1 := hd.ok.dz q (List.mem_of_getElem? hq)
      have hqn : q.1 < s.sure.length := by
        have h1 := hq1.1
        simp only [stk_length] at h1
        exact h1
      have hql : q.2.length = s.size := hq1.2
      have hn2 := hd.ok.n2
      simp only [stk_length] at hn2
      have hck : wr.cell? ⟨gg, k, none⟩ = some (.int .i64 q.1) := by
        rw [ho.cellAt k (by omega), List.getElem?_map, hq]
        rfl
      obtain ⟨sv, hb, cp', cur, rfl, hg, hc1, hc2, hc3, hsec⟩ := hd.blk
      simp only [stk_length] at hb hc1
      obtain ⟨l', hm, hdr⟩ := hd.map
      have c0 := cell_of_block hb 0
      have c1 := cell_of_block hb 1
      simp at c0 c1
      have hx1 := List.getElem?_eq_getElem (show q.1 < (stk f s.dirty s.sure k).length by rw [stk_length]; exact hqn)
      obtain ⟨v1, hv1, hr1⟩ := hsec q.1 _ hx1
      have cg := cell_of_block hg q.1
      rw [hv1] at cg
      have fg := free_of_block hg q.1
      have hkey : keyOf Tryz.prog 3 (.int .i64 (q.1 : Int)) = some (.int .i64 (q.1 : Int)) := Maps.keyOf_int_mk Tryz.underlying3 (WalkArith.wf_i64 (by omega))
      have hdg : dget s.dirty q.1 = some q.2 := dget_sorted hd.ok.ds hq
      obtain ⟨v2, e2, hr2⟩ : ∃ v2, lget l' (.int .i64 q.1) = some v2 ∧ RdX X wr 5 1 v2 s.size (u8s q.2) := by
        rcases hdr.get q.1 with ⟨y, v2, e1, e2, hr2⟩ | ⟨e1, _⟩
        · simp only at e1
          rw [hdg] at e1
          cases e1
          exact ⟨v2, e2, hr2⟩
        · simp only at e1
          rw [hdg] at e1
          cases e1
      have hlk := hm.look (Maps.int_keyed Tryz.underlying3) Tryz.underlying107 Tryz.zeroValue114 hkey
      have hlk' : ∀ W : World, W.heap[m]? = wr.heap[m]? → (Instr.lookup 107 (.map (some m)) (.int .i64 (q.1 : Int)) false).run Tryz.prog W = .ok v2 W := by
        intro W hW
        have := (hm.kept hW).look (Maps.int_keyed Tryz.underlying3) Tryz.underlying107 Tryz.zeroValue114 hkey
        rwa [e2] at this
      have HLK := Lib.hid hlk'
      obtain ⟨hpg', hpm', hgm'⟩ := hd.ne
      obtain ⟨lp', lg', lm'⟩ := hd.lt
      have HC : Calls Tryz.prog fn (#[.int .i64 k, v1, v2] ++ cap) wr.drew fun e W' => ∃ va vc, e = .returned (.slice va s.size vc) ∧ W'.cell? ⟨p, 0, none⟩ = some (.slice (some ⟨g, 0, none⟩) s.sure.length cp') ∧ W'.cell? ⟨p, 1, none⟩ = some (.map (some m)) ∧
          W'.cell? ⟨g, q.1, none⟩ = some v1 ∧ W'.frozen? ⟨g, q.1, none⟩ = false ∧ Hid (W'.heap[m]? = wr.heap[m]?) ∧ Hid (∀ u, (W'.setCell ⟨g, q.1, none⟩ u).heap[m]? = wr.heap[m]?) ∧
          Hid (DiskAt X (W'.setCell ⟨g, q.1, none⟩ (.slice va s.size vc)) p g m { s with sure := stk f s.dirty s.sure (k + 1) } ∧ (W'.setCell ⟨g, q.1, none⟩ (.slice va s.size vc)).ownsRow w.heap.size 3 1 (.slice (some ⟨gg, 0, none⟩) s.dirty.length cc) s.dirty.length (s.dirty.map (fun q => Value.int .i64 q.1)) ∧ J (W'.setCell ⟨g, q.1, none⟩ (.slice va s.size vc)) ∧ Ext (· = g) w (W'.setCell ⟨g, q.1, none⟩ (.slice va s.size vc))) := by
        refine (hcl wr.drew k v1 v2 _ q.2 (hJ _ _ hj ((Ext.refl _ wr).drew)) (by omega) (hr1.kept (fun _ _ _ h => h)) (hr2.kept (fun _ _ _ h => h))).mono ?_
        rintro e W' ⟨v, rfl, hrv, hxx⟩
        have hx' : Ext (fun _ => False) wr W' := (Ext.refl _ wr).drew.trans hxx
        have bp := hx'.block p lp' id
        have bg := hx'.block g lg' id
        have bm := hx'.block m lm' id
        have hd' := hd.kept_ext hx' id id id (hx'.keepT (fun _ _ _ _ => id))
        have hst := hd'.setSure (i := q.1) (v := v) hrv (by simp only [stk_length]; exact hqn)
        obtain ⟨a, c, rfl⟩ := hrv.form
        refine ⟨_, _, rfl, ?_, ?_, ?_, ?_, bm, ?_, ?_, ?_, ?_, ?_⟩
        · rw [cell_of_block (bp.trans hb)]; rfl
        · rw [cell_of_block (bp.trans hb)]; rfl
        · rw [cell_of_block (bg.trans hg)]; exact hv1
        · exact free_of_block (bg.trans hg) _
        · intro u
          rw [heap_setCell_ne (Ne.symm hgm')]
          exact bm
        · have e3 : stk f s.dirty s.sure (k + 1) = (stk f s.dirty s.sure k).set q.1 (f k ((stk f s.dirty s.sure k).getD q.1 []) q.2) := by
            show (match s.dirty[k]? with | some q => _ | none => _) = _
            rw [hq]
          rw [e3]
          have e4 : (stk f s.dirty s.sure k).getD q.1 [] = (stk f s.dirty s.sure k)[q.1]'(by rw [stk_length]; exact hqn) := by
            simp [List.getD_eq_getElem?_getD, List.getElem?_eq_getElem (show q.1 < (stk f s.dirty s.sure k).length by rw [stk_length]; exact hqn)]
          rw [e4]
          exact hst
        · refine own_keep (own_keep ho (hx'.keepT (fun _ _ _ _ => id))) ?_
          intro b cur' fr hbq
          rw [heap_setCell_ne (by rintro rfl; rw [bg.trans hg] at hbq; simp at hbq)]
          exact hbq
        · exact hJ _ _ hj ((hx'.mono (S' := (· = g)) (fun _ _ e => e.elim)).setCell (fun _ => rfl) _)
        · exact (hx.trans (hx'.mono (fun _ _ e => e.elim))).setCell (fun _ => rfl) _
      have HC' := Lib.hid HC
      have hlk0 := hlk' wr.drew rfl
      clear hlk hlk' HC hd ho hj hx hb hg hm hdr hv1 hr1 hr2 hsec hq1 e2 hq hdg hkey hx1 hinv HI0 hql
      obtain ⟨qi, qx⟩ := q
      simp only at *
      go_wp2_with fail
      have hS0 : wr.drew.cell? ⟨p, 0, none⟩ = some (.slice (some ⟨g, 0, none⟩) s.sure.length cp') ∧ wr.drew.cell? ⟨p, 1, none⟩ = some (.map (some m)) ∧ wr.drew.cell? ⟨g, qi, none⟩ = some v1 ∧ (Instr.lookup 107 (.map (some m)) (.int .i64 (qi : Int)) false).run Tryz.prog wr.drew = .ok v2 wr.drew := ⟨c0, c1, cg, hlk0⟩
      refine region_X (fun W => W.cell? ⟨p, 0, none⟩ = some (.slice (some ⟨g, 0, none⟩) s.sure.length cp') ∧ W.cell? ⟨p, 1, none⟩ = some (.map (some m)) ∧ W.cell? ⟨g, qi, none⟩ = some v1 ∧ (Instr.lookup 107 (.map (some m)) (.int .i64 (qi : Int)) false).run Tryz.prog W = .ok v2 W) (by kernel_rfl) ?_
      simp only [List.length_cons, List.length_nil, Nat.reduceAdd]
      refine AnyX.take 0 rfl (by kernel_rfl) (fun _ _ _ h => h) hS0 rfl (by rintro W ⟨s0, s1, sg, sl⟩; go_simp; rfl) ?_; simp only [Act.put, List.setIfInBounds_toArray, List.set_cons_succ, List.set_cons_zero]
      refine AnyX.take 1 rfl (by kernel_rfl) (fun _ _ _ h => h) hS0 rfl (by rintro W ⟨s0, s1, sg, sl⟩; go_simp; rfl) ?_; simp only [Act.put, List.setIfInBounds_toArray, List.set_cons_succ, List.set_cons_zero]
      refine AnyX.take 2 rfl (by kernel_rfl) (fun _ _ _ h => h) hS0 rfl (by rintro W ⟨s0, s1, sg, sl⟩; go_simp; rfl) ?_; simp only [Act.put, List.setIfInBounds_toArray, List.set_cons_succ, List.set_cons_zero]
      refine AnyX.take 3 rfl (by kernel_rfl) (fun _ _ _ h => h) hS0 rfl (by rintro W ⟨s0, s1, sg, sl⟩; go_simp; rfl) ?_; simp only [Act.put, List.setIfInBounds_toArray, List.set_cons_succ, List.set_cons_zero]
      refine AnyX.take 4 rfl (by kernel_rfl) (fun _ _ _ h => h) hS0 rfl (by rintro W ⟨s0, s1, sg, sl⟩; go_simp; rfl) ?_; simp only [Act.put, List.setIfInBounds_toArray, List.set_cons_succ, List.set_cons_zero]
      refine AnyX.take 5 rfl (by kernel_rfl) (fun _ _ _ h => h) hS0 rfl (by rintro W ⟨s0, s1, sg, sl⟩; go_simp; rfl) ?_; simp only [Act.put, List.setIfInBounds_toArray, List.set_cons_succ, List.set_cons_zero]
      refine AnyX.take 6 rfl (by kernel_rfl) (fun _ _ _ h => h) hS0 rfl (by rintro W ⟨s0, s1, sg, sl⟩; go_simp; rfl) ?_; simp only [Act.put, List.setIfInBounds_toArray, List.set_cons_succ, List.set_cons_zero]
      refine AnyX.take 7 rfl (by kernel_rfl) (fun _ _ _ h => h) hS0 rfl (by rintro W ⟨s0, s1, sg, sl⟩; go_simp; rfl) ?_; simp only [Act.put, List.setIfInBounds_toArray, List.set_cons_succ, List.set_cons_zero]
      refine AnyX.take 8 rfl (by kernel_rfl) (fun _ _ _ h => h) hS0 rfl (by rintro W ⟨s0, s1, sg, sl⟩; go_simp; rfl) ?_; simp only [Act.put, List.setIfInBounds_toArray, List.set_cons_succ, List.set_cons_zero]
      refine AnyX.take 9 rfl (by kernel_rfl) (fun _ _ _ h => h) hS0 rfl (by rintro W ⟨s0, s1, sg, sl⟩; go_simp; rfl) ?_; simp only [Act.put, List.setIfInBounds_toArray, List.set_cons_succ, List.set_cons_zero]
      refine AnyX.take 10 rfl (by kernel_rfl) (fun _ _ _ h => h) hS0 rfl (by rintro W ⟨s0, s1, sg, sl⟩; go_simp; rfl) ?_; simp only [Act.put, List.setIfInBounds_toArray, List.set_cons_succ, List.set_cons_zero]
      refine AnyX.take 11 rfl (by kernel_rfl) (fun _ _ _ h => h) hS0 rfl (by rintro W ⟨s0, s1, sg, sl⟩; go_simp; rfl) ?_; simp only [Act.put, List.setIfInBounds_toArray, List.set_cons_succ, List.set_cons_zero]
      refine AnyX.take 12 rfl (by kernel_rfl) (fun _ _ _ h => h) hS0 rfl (by rintro W ⟨s0, s1, sg, sl⟩; go_simp; rfl) ?_; simp only [Act.put, List.setIfInBounds_toArray, List.set_cons_succ, List.set_cons_zero]
      refine AnyX.take 13 rfl (by kernel_rfl) (fun _ _ _ h => h) hS0 rfl (by rintro W ⟨s0, s1, sg, sl⟩; go_simp; rfl) ?_; simp only [Act.put, List.setIfInBounds_toArray, List.set_cons_succ, List.set_cons_zero]
      refine AnyX.take 14 rfl (by kernel_rfl) (fun _ _ _ h => h) hS0 rfl (by rintro W ⟨s0, s1, sg, sl⟩; go_simp; rfl) ?_; simp only [Act.put, List.setIfInBounds_toArray, List.set_cons_succ, List.set_cons_zero]
      refine AnyX.take 15 rfl (by kernel_rfl) (fun _ _ _ h => h) hS0 rfl (by rintro W ⟨s0, s1, sg, sl⟩; go_simp; rfl) ?_; simp only [Act.put, List.setIfInBounds_toArray, List.set_cons_succ, List.set_cons_zero]
      refine AnyX.take 16 rfl (by kernel_rfl) (fun _ _ _ h => h) hS0 rfl (by rintro W ⟨s0, s1, sg, sl⟩; go_simp; rfl) ?_; simp only [Act.put, List.setIfInBounds_toArray, List.set_cons_succ, List.set_cons_zero]
      refine AnyX.take 17 rfl (by kernel_rfl) (fun _ _ _ h => h) hS0 rfl (by rintro W ⟨s0, s1, sg, sl⟩; go_simp; rfl) ?_; simp only [Act.put, List.setIfInBounds_toArray, List.set_cons_succ, List.set_cons_zero]
      refine AnyX.take 18 rfl (by kernel_rfl) (fun _ _ _ h => h) hS0 rfl (by rintro W ⟨s0, s1, sg, sl⟩; go_simp; rfl) ?_; simp only [Act.put, List.setIfInBounds_toArray, List.set_cons_succ, List.set_cons_zero]
      refine AnyX.take 19 rfl (by kernel_rfl) (fun _ _ _ h => h) hS0 rfl (by rintro W ⟨s0, s1, sg, sl⟩; go_simp; rfl) ?_; simp only [Act.put, List.setIfInBounds_toArray, List.set_cons_succ, List.set_cons_zero]
      refine AnyX.act 20 rfl (by kernel_rfl) rfl (fun K hK => ?_)
      go_wp2_with (refine HC'.out.mono ?_; rintro e W' ⟨va, vc, rfl, cp0, cp1, cg1, fg1, hm1, hm2, hnext⟩)
      have hS1 := And.intro cp0 (And.intro cp1 (And.intro cg1 (HLK.out _ hm1.out)))
      refine hK _ _ hS1 ?_
      refine AnyX.take 21 rfl (by kernel_rfl) (fun _ _ _ h => h) hS1 rfl (by rintro W ⟨s0, s1, sg, sl⟩; go_simp; rfl) ?_; simp only [Act.put, List.setIfInBounds_toArray, List.set_cons_succ, List.set_cons_zero]
      refine AnyX.end_ 22 rfl (by kernel_rfl) (by kernel_rfl) (by kernel_rfl) rfl ?_
      clear hS1 hS0
      go_wp2
      go_roundw
      case rel => exact ⟨k + 1, by omega, by go_num, hnext⟩
      case measure => simp [intOf]; omega
    · obtain ⟨hd, ho, hj, hx⟩ := hinv.out
      obtain rfl : k = s.dirty.length := by omega
      obtain ⟨sv, hb, _⟩ := hd.blk
      obtain ⟨l', hm, hdr⟩ := hd.map
      have c1 := cell_of_block hb 1
      simp at c1
      obtain ⟨cl, hrun, hm', ht⟩ := hm.clear Tryz.underlying107 0
      have hfin := hd.cleared (cl := cl) hm' ht
      have HF : Hid (DiskAt X (ChangeMaps.setBlock wr m (.map #[] cl)) p g m { s with sure := stk f s.dirty s.sure s.dirty.length, dirty := [] } ∧ Ext (fun k => k = g ∨ k = m) w (ChangeMaps.setBlock wr m (.map #[] cl))) :=
        ⟨hfin, (hx.mono (fun _ _ e => .inl e)).trans ((mapTurned_ext ht).mono (fun _ _ e => .inr e))⟩
      clear hfin hd ho hj hx hb hm hdr hm' ht hinv HI0
      go_wp2
      go_end0
      exact ⟨rfl, HF.out⟩
end Go.Proofs.YtekolejeliefdaaGreat
