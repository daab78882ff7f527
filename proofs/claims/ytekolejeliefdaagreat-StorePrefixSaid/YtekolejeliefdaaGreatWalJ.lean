/- The log: which side's turn is the last one. -/
import Derived.Test.YtekolejeliefdaaGreatWalI
import Derived.Deep.QuietTactic
import Derived.BigQuiet
set_option linter.unusedVariables false
set_option linter.unusedSimpArgs false
namespace Go.Proofs.YtekolejeliefdaaGreat
open Go.RowKit
variable {X : Nat → Prop}

/-- A side's turn, where its first frame is whole; or what reading stops with. -/
def sideF (s : DS) (side : Nat) : Except Int Nat :=
  match openF s side 0 0 with
  | .error x => .error x
  | .ok r => if r.1 % 2 = side then .ok r.1 else .error 0
/-- What reading a side's turn comes to. -/
def SidePost (o : Except Int Nat) (b5 : Nat) (w : World) (e : Ending) (w' : World) : Prop :=
  (match o with
  | .ok t => e = .returned (.tuple #[]) ∧ w'.heap[b5]? = some (.cells #[.int .u64 t] 143 (0, 0))
  | .error x => e = .panicked [{ v := stopV x, recovered := false }]) ∧ Ext (· = b5) w w'

section
variable {w : World} {lp um p g m : Nat} {l : LS} {s : DS}
set_option maxRecDepth 100000 in
set_option maxHeartbeats 1000000 in
theorem begin1_any (h : LogAt X w lp um l p g m s) (hz : 128 ≤ s.size) (side : Nat) (hs : side ≤ 1) {b1 b4 b5 : Nat} {v5 : Value} (h1 : w.heap[b1]? = some (.cells #[.pointer (some ⟨lp, 0, none⟩)] 115 (0, 0)))
    (h4 : w.heap[b4]? = some (.cells #[.int .i64 side] 3 (0, 0))) (h5 : w.heap[b5]? = some (.cells #[v5] 143 (0, 0))) :
    Calls Tryz.prog 126 #[.pointer (some ⟨b1, 0, none⟩), .pointer (some ⟨b4, 0, none⟩), .pointer (some ⟨b5, 0, none⟩)] w fun e w' => SidePost (sideF s side) b5 w e w' := by
  have ho := open_any h hz side 0 0 hs (by omega) (by omega)
  have c1 := cell_of_block h1 0
  have c4 := cell_of_block h4 0
  simp at c1 c4
  have hlt5 := lt_of_heap h5
  have hne : b4 ≠ b5 := by
    rintro rfl
    rw [h4] at h5
    simp at h5
  cases hx : openF s side 0 0 with
  | error x =>
    have hsd : sideF s side = .error x := by unfold sideF; rw [hx]
    rw [hsd]
    rw [hx] at ho
    have HO := Lib.hid ho
    clear ho hx hsd h h1 h4 h5
    go_enter Tryz.func126, Tryz.ntmps126
    go_wp2_with fail
    refine HO.out.mono ?_
    rintro e w' ⟨rfl, hb⟩
    exact ⟨rfl, rfl, Ext.of_below hb (Nat.le_refl _)⟩
  | ok r =>
    obtain ⟨t, rs, bh⟩ := r
    have hsd : sideF s side = if t % 2 = side then .ok t else .error 0 := by unfold sideF; rw [hx]
    rw [hsd]
    rw [hx] at ho
    have ho' : Calls Tryz.prog 86 #[.pointer (some ⟨lp, 0, none⟩), .int .i64 side, .int .i64 0, .int .u64 0] w fun e w' => ∃ v : Value, e = .returned (.tuple #[.int .u64 t, v, .int .i64 bh]) ∧ w'.cell? ⟨b5, 0, none⟩ = some v5 ∧ w'.frozen? ⟨b5, 0, none⟩ = false ∧ w'.cell? ⟨b4, 0, none⟩ = some (.int .i64 side) ∧ Hid (w'.heap[b5]? = some (.cells #[v5] 143 (0, 0)) ∧ Below w.heap.size w w') := by
      refine ho.mono ?_
      rintro e w' ⟨⟨v, cs, rfl, _, _⟩, hb⟩
      have q5 := (hb.block _ (lt_of_heap h5)).trans h5
      have q4 := (hb.block _ (lt_of_heap h4)).trans h4
      have k5 := cell_of_block q5 0
      have k4 := cell_of_block q4 0
      simp at k5 k4
      exact ⟨v, rfl, k5, free_of_block q5 0, k4, q5, hb⟩
    have HO := Lib.hid ho'
    have hsm : (IntKind.u64.wrap (side : Int)) = (side : Int) := by rw [IntKind.wrap_u64]; omega
    have htm : ((t : Int) % 2) = ((t % 2 : Nat) : Int) := by omega
    obtain ⟨T, hT⟩ : ∃ T, t % 2 = T := ⟨_, rfl⟩
    rw [hT] at htm ⊢
    clear ho ho' hx hsd h h1 h4 h5 hT
    by_cases hts : T = side
    · subst hts
      rw [if_pos rfl]
      go_enter Tryz.func126, Tryz.ntmps126
      go_wp2_with (first | (go_at_call 86; refine HO.out.mono ?_; rintro e w1 ⟨v, rfl, k5, kf, k4, H1⟩) | (go_at_call 87; refine (must_ok 0 _).mono ?_; rintro e w' ⟨rfl, rfl⟩))
      go_end0
      exact ⟨⟨rfl, heap_setCell_at (i := 0) H1.out.1 _⟩, (Ext.of_below (S := (· = b5)) H1.out.2 (Nat.le_refl _)).setLog b5 0 _ rfl⟩
    · rw [if_neg hts]
      have hts' : ((T : Int) == (side : Int)) = false := by simp; omega
      go_enter Tryz.func126, Tryz.ntmps126
      go_wp2_with (first | (go_at_call 86; refine HO.out.mono ?_; rintro e w1 ⟨v, rfl, k5, kf, k4, H1⟩) | (go_at_call 87; refine (must_no 0 _).mono ?_; rintro e w' ⟨rfl, rfl⟩))
      exact ⟨rfl, rfl, (Ext.of_below (S := (· = b5)) H1.out.2 (Nat.le_refl _)).setLog b5 0 _ rfl⟩
/-- What try tells of a side. -/
def SideTold (o : Except Int Nat) (b5 : Nat) (w : World) (e : Ending) (w' : World) : Prop :=
  match o with
  | .ok t => e = .returned (.tuple #[.bool true, .int .i64 0]) ∧ w'.heap[b5]? = some (.cells #[.int .u64 t] 143 (0, 0))
  | .error x => e = .returned (.tuple #[.bool false, .int .i64 x])
theorem try_side (h : LogAt X w lp um l p g m s) (hz : 128 ≤ s.size) (side : Nat) (hs : side ≤ 1) {b1 b4 b5 : Nat} {v5 : Value} (h1 : w.heap[b1]? = some (.cells #[.pointer (some ⟨lp, 0, none⟩)] 115 (0, 0)))
    (h4 : w.heap[b4]? = some (.cells #[.int .i64 side] 3 (0, 0))) (h5 : w.heap[b5]? = some (.cells #[v5] 143 (0, 0))) :
    Calls Tryz.prog 84 #[.func (.func 126) #[] #[.pointer (some ⟨b1, 0, none⟩), .pointer (some ⟨b4, 0, none⟩), .pointer (some ⟨b5, 0, none⟩)]] w fun e w' => SideTold (sideF s side) b5 w e w' ∧ Ext (· = b5) w w' := by
  have hx : Ext (fun _ => False) w ((w.alloc (.cells #[.bool false] 4)).alloc (.cells #[.int .i64 0] 30)) := ((Ext.refl _ w).alloc _).alloc _
  have hl := h.past hx ⟨id, id, id, id, id⟩ (hx.keepT (fun _ _ _ _ => id))
  have hlt5 := lt_of_heap h5
  have n1 := heap_alloc_new w (.cells #[.bool false] 4)
  have n2 := heap_alloc_new (w.alloc (.cells #[.bool false] 4)) (.cells #[.int .i64 0] 30)
  have n1' := (heap_alloc_lt (w := w.alloc (.cells #[.bool false] 4)) (o := .cells #[.int .i64 0] 30) (k := w.heap.size) (by simp)).trans n1
  have hbg := begin1_any hl hz side hs ((hx.block _ (lt_of_heap h1) id).trans h1) ((hx.block _ (lt_of_heap h4) id).trans h4) ((hx.block _ hlt5 id).trans h5)
  refine (try_any (.inl rfl) hbg ?_).mono ?_
  · rintro e w' ⟨hp, hxe⟩
    refine ⟨?_, (hxe.block _ (by simp; omega) (by omega)).trans n1', (hxe.block _ (by simp) (by omega)).trans ?_⟩
    · cases hsd : sideF s side with
      | ok t => rw [hsd] at hp; exact .inl hp.1
      | error x => rw [hsd] at hp; exact .inr ⟨x, hp⟩
    · simpa using n2
  · rintro e w' ⟨e0, w0, ⟨hp, hxe⟩, rfl, hx2⟩
    have hxw : Ext (· = b5) w w' := ((hx.mono (fun _ _ h => h.elim)).trans hxe).andThen hx2 (fun i hi hs' => by omega)
    refine ⟨?_, hxw⟩
    cases hsd : sideF s side with
    | ok t =>
      rw [hsd] at hp
      obtain ⟨rfl, hb⟩ := hp
      exact ⟨rfl, (hx2.block _ (lt_of_heap hb) (by omega)).trans hb⟩
    | error x =>
      rw [hsd] at hp
      obtain rfl := hp
      exact rfl

/-- A later turn, as numbers go round. -/
def later (t u : Nat) : Bool := decide (0 < wrap64 (IntKind.u64.wrap ((t : Int) - (u : Int))))
/-- A side is looked at: the turn so far, was there one? -/
def beginStep (s : DS) (side : Nat) (st : Nat × Bool) : Except Int (Nat × Bool) :=
  match sideF s side with
  | .error x => if x = 0 then .ok st else .error x
  | .ok t => if st.2 = false ∨ later t st.1 = true then .ok (t, true) else .ok st
def beginP (s : DS) (t0 : Nat) : Nat → Except Int (Nat × Bool)
  | 0 => .ok (t0, false)
  | k + 1 => match beginP s t0 k with
    | .error x => .error x
    | .ok st => beginStep s k st
/-- The turn of a disk's log, or what reading stops with. -/
def beginF (s : DS) (t0 : Nat) : Except Int Nat :=
  match beginP s t0 2 with
  | .error x => .error x
  | .ok st => .ok st.1
theorem beginF_stop (s : DS) (t0 k : Nat) {st : Nat × Bool} {x : Int} (hk : k < 2) (h1 : beginP s t0 k = .ok st) (h2 : sideF s k = .error x) (hx : x ≠ 0) : beginF s t0 = .error x := by
  have h3 : beginP s t0 (k + 1) = .error x := by simp only [beginP, h1, beginStep, h2, if_neg hx]
  unfold beginF
  rcases (by omega : k = 0 ∨ k = 1) with rfl | rfl
  · rw [beginP, h3]
  · rw [h3]
theorem LogAt.drewN (h : LogAt X w lp um l p g m s) (n : Nat) : LogAt X (w.drewN n) lp um l p g m s := ⟨h.blk, h.und.kept rfl, h.disk.drewN n, h.ne, h.off⟩
def BeginPost (o : Except Int Nat) (X : Nat → Prop) (lp um : Nat) (l : LS) (p g m : Nat) (s : DS) (w : World) (e : Ending) (w' : World) : Prop :=
  (match o with
  | .ok t => e = .returned (.int .i64 0) ∧ LogAt X w' lp um { l with turn := t } p g m s
  | .error x => e = .returned (.int .i64 x)) ∧ Ext (· = lp) w w'
set_option maxRecDepth 100000 in
set_option maxHeartbeats 2000000 in
theorem begin_any (h : LogAt X w lp um l p g m s) (hz : 128 ≤ s.size) :
    Calls Tryz.prog 83 #[.pointer (some ⟨lp, 0, none⟩)] w fun e w' => BeginPost (beginF s l.turn) X lp um l p g m s w e w' := by
  have hmf : ∀ (fn : Fn) (first cap : Array Value) (w : World), (Instr.makeFunc fn first cap).run Tryz.prog w = .ok (.func fn first cap) w := fun _ _ _ _ => rfl
  have hb0 := heap_alloc_new w (.cells #[.pointer (some ⟨lp, 0, none⟩)] 115)
  have hlog0 : LogAt X (w.alloc (.cells #[.pointer (some ⟨lp, 0, none⟩)] 115)) lp um { l with turn := l.turn } p g m s := h.past (S := fun _ => False) ((Ext.refl _ w).alloc _) ⟨id, id, id, id, id⟩ (((Ext.refl (fun _ => False) w).alloc _).keepT (fun _ _ _ _ => id))
  have HIN : Hid (∃ t fd, beginP s l.turn 0 = .ok (t, fd) ∧ fd = false ∧ LogAt X (w.alloc (.cells #[.pointer (some ⟨lp, 0, none⟩)] 115)) lp um { l with turn := t } p g m s ∧ (w.alloc (.cells #[.pointer (some ⟨lp, 0, none⟩)] 115)).heap[w.heap.size]? = some (.cells #[.pointer (some ⟨lp, 0, none⟩)] 115 (0, 0)) ∧ Ext (· = lp) w (w.alloc (.cells #[.pointer (some ⟨lp, 0, none⟩)] 115))) :=
    ⟨l.turn, false, rfl, rfl, hlog0, hb0, (Ext.refl _ w).alloc _⟩
  have HH := Lib.hid h
  clear hlog0 hb0 h
  go_enter Tryz.func83, Tryz.ntmps83
  go_wp2_with fail
  go_loopw [3, 8] (fun fv sv wr => ∃ (k : Nat) (fd : Bool), k ≤ 2 ∧ sv = .int .i64 k ∧ fv = .bool fd ∧ Hid (∃ t, beginP s l.turn k = .ok (t, fd) ∧ LogAt X wr lp um { l with turn := t } p g m s ∧ wr.heap[w.heap.size]? = some (.cells #[.pointer (some ⟨lp, 0, none⟩)] 115 (0, 0)) ∧ Ext (· = lp) w wr)) (fun _ sv _ => 2 - (intOf sv).toNat)
  case atStart => exact ⟨0, false, by omega, rfl, rfl, by obtain ⟨t, fd, h1, rfl, h2⟩ := HIN.out; exact ⟨t, h1, h2⟩⟩
  case round =>
    obtain ⟨k, fd, hk, rfl, rfl, hin⟩ := hrel
    by_cases hlt : k < 2
    · obtain ⟨t, hbp, hlog, hbox, hxt⟩ := hin.out
      have hx2 : Ext (fun _ => False) wr ((wr.alloc (.cells #[.int .i64 k] 3)).alloc (.cells #[.int .u64 0] 143)) := ((Ext.refl _ wr).alloc _).alloc _
      have hlog2 := hlog.past hx2 ⟨id, id, id, id, id⟩ (hx2.keepT (fun _ _ _ _ => id))
      have hbox2 := (hx2.block _ (lt_of_heap hbox) id).trans hbox
      have n1 := (heap_alloc_lt (w := wr.alloc (.cells #[.int .i64 k] 3)) (o := .cells #[.int .u64 0] 143) (k := wr.heap.size) (by simp)).trans (heap_alloc_new wr (.cells #[.int .i64 k] 3))
      have n2 := heap_alloc_new (wr.alloc (.cells #[.int .i64 k] 3)) (.cells #[.int .u64 0] 143)
      simp only [World.size_alloc] at n2
      have hts := try_side hlog2 hz k (by omega) hbox2 n1 n2
      have hts' : Calls Tryz.prog 84 #[.func (.func 126) #[] #[.pointer (some ⟨w.heap.size, 0, none⟩), .pointer (some ⟨wr.heap.size, 0, none⟩), .pointer (some ⟨wr.heap.size + 1, 0, none⟩)]] ((wr.alloc (.cells #[.int .i64 k] 3)).alloc (.cells #[.int .u64 0] 143)) fun e w' =>
          SideTold (sideF s k) (wr.heap.size + 1) ((wr.alloc (.cells #[.int .i64 k] 3)).alloc (.cells #[.int .u64 0] 143)) e w' ∧ w'.cell? ⟨w.heap.size, 0, none⟩ = some (.pointer (some ⟨lp, 0, none⟩)) ∧ w'.cell? ⟨lp, 1, none⟩ = some (.int .u64 t) ∧ w'.frozen? ⟨lp, 1, none⟩ = false ∧
          Hid (LogAt X w' lp um { l with turn := t } p g m s ∧ w'.heap[w.heap.size]? = some (.cells #[.pointer (some ⟨lp, 0, none⟩)] 115 (0, 0)) ∧ Ext (· = lp) w w') := by
        refine hts.mono ?_
        rintro e w' ⟨h1, h2⟩
        have hlt := hlog.lt
        have hdl := hlog.disk.lt
        have hn : wr.heap.size ≤ wr.heap.size + 1 := by omega
        have hlog3 := hlog2.past h2 ⟨by omega, by omega, by omega, by omega, by omega⟩ (h2.keepT (by rintro b cur fr hq rfl; rw [n2] at hq; simp at hq))
        have hbox3 := (h2.block _ (lt_of_heap hbox2) (by have := lt_of_heap hbox; omega)).trans hbox2
        have q1 := cell_of_block hbox3 0
        have q2 := cell_of_block hlog3.blk 1
        simp at q1 q2
        exact ⟨h1, q1, q2, free_of_block hlog3.blk 1, hlog3, hbox3, hxt.andThen ((hx2.mono (fun _ _ h => h.elim)).trans h2) (fun i hi hs => by have := hxt.size; omega)⟩
      have hstep : beginP s l.turn (k + 1) = beginStep s k (t, fd) := by simp only [beginP, hbp]
      have HSTEP := Lib.hid hstep
      have HBP := Lib.hid hbp
      clear hin hstep hbp hlog hbox hxt hx2 hlog2 hbox2 n1 n2 hts
      cases hsd : sideF s k with
      | error x =>
        rw [hsd] at hts'
        have HTS := Lib.hid hts'
        have HSD := Lib.hid hsd
        clear hts' hsd
        by_cases hx0 : x = 0
        · subst hx0
          go_wp2_with (go_at_call 84; refine HTS.out.mono ?_; rintro e w1 ⟨rfl, q1, q2, qf, H1⟩)
          go_quiet (fail)
          go_wp2_with fail
          have hs1 : beginStep s k (t, fd) = .ok (t, fd) := by simp only [beginStep, HSD.out, if_true]
          refine ⟨⟨k + 1, fd, by omega, by go_num, rfl, t, HSTEP.out.trans hs1, H1.out.1.drewN nq, H1.out.2.1, H1.out.2.2.drewN nq⟩, by simp [intOf]; omega⟩
        · have hx1 : (x != 0) = true := by simpa using hx0
          go_wp2_with (go_at_call 84; refine HTS.out.mono ?_; rintro e w1 ⟨rfl, q1, q2, qf, H1⟩)
          go_ret
          rw [beginF_stop s l.turn k hlt HBP.out HSD.out hx0]
          exact ⟨rfl, H1.out.2.2⟩
      | ok t' =>
        have hts2 : Calls Tryz.prog 84 #[.func (.func 126) #[] #[.pointer (some ⟨w.heap.size, 0, none⟩), .pointer (some ⟨wr.heap.size, 0, none⟩), .pointer (some ⟨wr.heap.size + 1, 0, none⟩)]] ((wr.alloc (.cells #[.int .i64 k] 3)).alloc (.cells #[.int .u64 0] 143)) fun e w' =>
          e = .returned (.tuple #[.bool true, .int .i64 0]) ∧ w'.cell? ⟨wr.heap.size + 1, 0, none⟩ = some (.int .u64 t') ∧ w'.cell? ⟨w.heap.size, 0, none⟩ = some (.pointer (some ⟨lp, 0, none⟩)) ∧ w'.cell? ⟨lp, 1, none⟩ = some (.int .u64 t) ∧ w'.frozen? ⟨lp, 1, none⟩ = false ∧
          Hid (LogAt X w' lp um { l with turn := t } p g m s ∧ w'.heap[w.heap.size]? = some (.cells #[.pointer (some ⟨lp, 0, none⟩)] 115 (0, 0)) ∧ Ext (· = lp) w w') := by
          refine hts'.mono ?_
          rintro e w' ⟨h1, h2, h3, h4, h5⟩
          rw [hsd] at h1
          have k5 := cell_of_block h1.2 0
          simp at k5
          exact ⟨h1.1, k5, h2, h3, h4, h5⟩
        have HTS := Lib.hid hts2
        have hs1 : beginStep s k (t, fd) = if fd = false ∨ later t' t = true then .ok (t', true) else .ok (t, fd) := by simp only [beginStep, hsd]
        have HS1 := Lib.hid hs1
        clear hts' hts2 hsd hs1
        cases fd with
        | false =>
          go_wp2_with (go_at_call 84; refine HTS.out.mono ?_; rintro e w1 ⟨rfl, q5, q1, q2, qf, H1⟩)
          go_quiet (fail)
          go_wp2_with fail
          have q := (H1.out.1.drewN nq).set (l' := { l with turn := t' }) 1 (.int .u64 t') rfl rfl
          have hne : w.heap.size ≠ lp := by have := HH.out.lt.1; omega
          refine ⟨⟨k + 1, true, by omega, by go_num, rfl, t', HSTEP.out.trans (HS1.out.trans (by simp)), q, (heap_setCell_ne hne _).trans H1.out.2.1, (H1.out.2.2.drewN nq).setLog lp 1 _ rfl⟩, by simp [intOf]; omega⟩
        | true =>
          have hne : w.heap.size ≠ lp := by have := HH.out.lt.1; omega
          by_cases hla : 0 < wrap64 (IntKind.u64.wrap ((t' : Int) - (t : Int)))
          · have HS2 : Hid (beginStep s k (t, true) = .ok (t', true)) := Lib.hid (HS1.out.trans (if_pos (.inr (decide_eq_true hla))))
            go_wp2_with (go_at_call 84; refine HTS.out.mono ?_; rintro e w1 ⟨rfl, q5, q1, q2, qf, H1⟩)
            go_quiet (fail)
            go_wp2_with fail
            have q := (H1.out.1.drewN nq).set (l' := { l with turn := t' }) 1 (.int .u64 t') rfl rfl
            refine ⟨⟨k + 1, true, by omega, by go_num, rfl, t', HSTEP.out.trans HS2.out, q, (heap_setCell_ne hne _).trans H1.out.2.1, (H1.out.2.2.drewN nq).setLog lp 1 _ rfl⟩, by simp [intOf]; omega⟩
          · have HS2 : Hid (beginStep s k (t, true) = .ok (t, true)) := Lib.hid (HS1.out.trans (if_neg (by rintro (h | h); cases h; exact hla (of_decide_eq_true h))))
            have hla' : wrap64 (IntKind.u64.wrap ((t' : Int) - (t : Int))) ≤ 0 := by omega
            go_wp2_with (go_at_call 84; refine HTS.out.mono ?_; rintro e w1 ⟨rfl, q5, q1, q2, qf, H1⟩)
            go_quiet (fail)
            go_wp2_with fail
            refine ⟨⟨k + 1, true, by omega, by go_num, rfl, t, HSTEP.out.trans HS2.out, H1.out.1.drewN nq, H1.out.2.1, H1.out.2.2.drewN nq⟩, by simp [intOf]; omega⟩
    · obtain rfl : k = 2 := by omega
      have HX := Lib.hid hin.out
      clear hin
      go_wp2_with fail
      go_ret
      obtain ⟨t, h1, h2, h3, h4⟩ := HX.out
      unfold beginF
      rw [h1]
      exact ⟨⟨rfl, h2⟩, h4⟩
end
end Go.Proofs.YtekolejeliefdaaGreat
