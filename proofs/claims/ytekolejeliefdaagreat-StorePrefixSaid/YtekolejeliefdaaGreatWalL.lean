/- The log: opened. -/
import Derived.Test.YtekolejeliefdaaGreatWalK
set_option linter.unusedVariables false
set_option linter.unusedSimpArgs false
namespace Go.Proofs.YtekolejeliefdaaGreat
open Go.RowKit
variable {X : Nat → Prop}

/-- The frames from a place on, so many at most: their records, the place and number behind. -/
def chainF (s : DS) (t : Nat) : Nat → Nat → Nat → Except Int (List (List UInt8) × Nat × Nat)
  | 0, a, n => .ok ([], a, n)
  | f + 1, a, n => match nextF s t a n with
    | .error x => if x = 0 then .ok ([], a, n) else .error x
    | .ok r => match chainF s t f r.2 (n + 1) with
      | .error x => .error x
      | .ok q => .ok (r.1 ++ q.1, q.2)
/-- A disk opened: a log and its records, or what is told. -/
def recoverF (s : DS) : Except Int (LS × List (List UInt8)) :=
  if s.sure.length < 16 ∨ s.size < 128 then .error 41
  else match beginF s 0 with
    | .error x => .error x
    | .ok t => match chainF s t (s.sure.length / 2 + 1) 0 0 with
      | .error x => .error x
      | .ok q => .ok ({ turn := t, next := q.2.2, at_ := q.2.1, count := q.1.length, undone := [] }, q.1)
/-- Records ahead of what is still to come. -/
def preF (out : List (List UInt8)) (o : Except Int (List (List UInt8) × Nat × Nat)) : Except Int (List (List UInt8) × Nat × Nat) :=
  match o with
  | .error x => .error x
  | .ok q => .ok (out ++ q.1, q.2)
theorem preF_pre (a b : List (List UInt8)) (o : Except Int (List (List UInt8) × Nat × Nat)) : preF a (preF b o) = preF (a ++ b) o := by
  cases o <;> simp [preF]
theorem chainF_next {s : DS} {t f a n : Nat} {r : List (List UInt8) × Nat} (h : nextF s t a n = .ok r) : chainF s t (f + 1) a n = preF r.1 (chainF s t f r.2 (n + 1)) := by
  rw [chainF, h]
  rfl
theorem chainF_end {s : DS} {t f a n : Nat} (h : nextF s t a n = .error 0) : chainF s t (f + 1) a n = .ok ([], a, n) := by
  rw [chainF, h]
  rfl
theorem chainF_stop {s : DS} {t f a n : Nat} {x : Int} (h : nextF s t a n = .error x) (hx : x ≠ 0) : chainF s t (f + 1) a n = .error x := by
  rw [chainF, h]
  simp only [if_neg hx]
theorem nextF_ok {s : DS} {t a n : Nat} {r : List (List UInt8) × Nat} (hz : 128 ≤ s.size) (h : nextF s t a n = .ok r) : a + 1 ≤ r.2 ∧ r.2 ≤ s.sure.length / 2 ∧ 4 * r.1.length ≤ (r.2 - a) * (s.size - 16) := by
  unfold nextF at h
  split at h
  · cases h
  · rename_i q hq
    split at h
    · simp only [Except.ok.injEq] at h
      subst h
      exact openF_ok hz hq
    · cases h
/-- What opening comes to. -/
def OpenedPost (o : Except Int (LS × List (List UInt8))) (X : Nat → Prop) (p g m : Nat) (s : DS) (w : World) (e : Ending) (w' : World) : Prop :=
  (match o with
  | .ok r => ∃ lp um v cs, e = .returned (.tuple #[.pointer (some ⟨lp, 0, none⟩), v, .int .i64 0]) ∧ w.heap.size ≤ lp ∧ w.heap.size ≤ um ∧ LogAt X w' lp um r.1 p g m s ∧ w'.ownsRow w.heap.size 114 1 v r.2.length cs ∧ RecsAt w' cs r.2
  | .error x => e = .returned (.tuple #[.pointer none, .slice none 0 0, .int .i64 x])) ∧ Below w.heap.size w w'

theorem beginF_no {s : DS} {t0 : Nat} {x : Int} (h : beginF s t0 = .error x) : x ≠ 0 := by
  have hs : ∀ k st, beginStep s k st = .error x → x ≠ 0 := by
    intro k st h
    unfold beginStep at h
    split at h
    · split at h
      · cases h
      · cases h
        assumption
    · split at h <;> cases h
  have hp : ∀ k, beginP s t0 k = .error x → x ≠ 0 := by
    intro k
    induction k with
    | zero => intro h; cases h
    | succ k ih =>
      intro h
      simp only [beginP] at h
      split at h
      · rename_i y hy
        cases h
        exact ih hy
      · exact hs _ _ h
  unfold beginF at h
  split at h
  · rename_i y hy
    cases h
    exact hp _ hy
  · cases h
theorem RecsAt.app {w : World} {cs cs' : List Value} {rs rs' : List (List UInt8)} (h : RecsAt w cs rs) (h' : RecsAt w cs' rs') : RecsAt w (cs ++ cs') (rs ++ rs') := by
  refine ⟨by simp [h.1, h'.1], fun i u q h1 h2 => ?_⟩
  rcases Nat.lt_or_ge i rs.length with hi | hi
  · rw [List.getElem?_append_left (by rw [h.1]; exact hi)] at h1
    rw [List.getElem?_append_left hi] at h2
    exact h.2 i u q h1 h2
  · rw [List.getElem?_append_right hi] at h2
    rw [List.getElem?_append_right (by rw [h.1]; exact hi), h.1] at h1
    exact h'.2 _ u q h1 h2
/-- Where a log in memory stands. -/
def atOf (w : World) (lp : Nat) : Nat := match w.cell? ⟨lp, 3, none⟩ with | some v => (intOf v).toNat | none => 0
theorem LogAt.atOf {w : World} {lp um p g m : Nat} {l : LS} {s : DS} (h : LogAt X w lp um l p g m s) : atOf w lp = l.at_ := by
  unfold Go.Proofs.YtekolejeliefdaaGreat.atOf
  rw [cell_of_block h.blk]
  simp [intOf]
/-- While a log is opened: the log, what has been read, in memory that is new. -/
structure OInv (X : Nat → Prop) (w : World) (l : LS) (outs : List (List UInt8)) (ov : Value) (p g m : Nat) (s : DS) (wr : World) : Prop where
  log : LogAt X wr (w.heap.size + 1) w.heap.size l p g m s
  box : wr.heap[w.heap.size + 2]? = some (.cells #[.pointer (some ⟨w.heap.size + 1, 0, none⟩)] 115 (0, 0))
  own : ∃ cs, wr.ownsRow w.heap.size 114 1 ov outs.length cs ∧ RecsAt wr cs outs
  below : Below w.heap.size w wr
  low : p < w.heap.size ∧ g < w.heap.size ∧ m < w.heap.size
section
variable {w wr w1 : World} {p g m : Nat} {s : DS} {l l' : LS} {outs rs : List (List UInt8)} {ov : Value}
theorem OInv.new (h : OInv X w l outs ov p g m s wr) (hx : Ext (fun _ => False) wr w1) : OInv X w l outs ov p g m s w1 := by
  obtain ⟨h1, h2, ⟨cs, h3, h4⟩, h5, h6⟩ := h
  exact ⟨h1.past hx ⟨id, id, id, id, id⟩ (hx.keepT (fun _ _ _ _ => id)), (hx.block _ (lt_of_heap h2) id).trans h2, ⟨cs, own_keep h3 (hx.keepT (fun _ _ _ _ => id)), h4.kept (hx.keepT (fun _ _ _ _ => id))⟩, h5.trans ((hx.below (fun _ _ h => h) (Nat.le_refl _)).mono h5.size), h6⟩
theorem OInv.set (h : OInv X w l outs ov p g m s wr) (i : Nat) (u : Value) (hu : l'.undone = l.undone)
    (hc : (#[.pointer (some ⟨p, 0, none⟩), .int .u64 l.turn, .int .u64 l.next, .int .i64 l.at_, .int .i64 l.count, .map (some w.heap.size)] : Array Value).setIfInBounds i u = #[.pointer (some ⟨p, 0, none⟩), .int .u64 l'.turn, .int .u64 l'.next, .int .i64 l'.at_, .int .i64 l'.count, .map (some w.heap.size)]) :
    OInv X w l' outs ov p g m s (wr.setCell ⟨w.heap.size + 1, i, none⟩ u) := by
  obtain ⟨h1, h2, ⟨cs, h3, h4⟩, h5, h6⟩ := h
  have hk : ∀ e, e ≠ 162 → KeepT e wr (wr.setCell ⟨w.heap.size + 1, i, none⟩ u) := by
    intro e he b cur fr hq
    rw [heap_setCell_ne (by rintro rfl; rw [h1.blk] at hq; simp at hq; exact he hq.2.1.symm)]
    exact hq
  exact ⟨h1.set i u hu hc, (heap_setCell_ne (by simp) _).trans h2, ⟨cs, own_keep h3 (hk _ (by decide)), h4.kept (hk _ (by decide))⟩, h5.setCell (by simp) _, h6⟩
theorem OInv.app {v' : Value} {cs' : List Value} (h : OInv X w l outs ov p g m s wr) (hr : RecsAt wr cs' rs) {cs : List Value} (ho : wr.ownsRow w.heap.size 114 1 ov outs.length cs) (hra : RecsAt wr cs outs)
    (h1 : w1.ownsRow w.heap.size 114 1 v' (outs.length + rs.length) (cs ++ cs')) (h2 : wr.grownBy w1 ov.ownBlock) : OInv X w l (outs ++ rs) v' p g m s w1 := by
  have hk := grown_keepT (e' := 5) ho h2 (by decide)
  have hS : ∀ k, ov.ownBlock = some k → w.heap.size ≤ k ∧ ∃ cur, wr.heap[k]? = some (.cells cur 114 (0, 0)) := by
    intro k hk
    refine ⟨(ho.lt k hk).1, ?_⟩
    rcases ho.2 with ⟨rfl, _⟩ | ⟨g', cap, cc, rfl, _, hg, _⟩
    · simp [Value.ownBlock] at hk
    · simp only [Value.ownBlock, Option.some.injEq] at hk
      subst hk
      exact ⟨_, hg⟩
  have hx : Ext (fun k => ov.ownBlock = some k) wr w1 := Ext.of_grown h2 (fun k hk => hk)
  obtain ⟨k1, k2, _, k5, k6⟩ := h
  refine ⟨k1.past hx ⟨fun e => ?_, fun e => ?_, fun e => ?_, fun e => ?_, fun e => ?_⟩ hk, (hx.block _ (lt_of_heap k2) (fun e => ?_)).trans k2, ⟨cs ++ cs', ?_, (hra.kept hk).app (hr.kept hk)⟩, k5.grown h2 k5.size (fun k hk => (ho.lt k hk).1), k6⟩
  · obtain ⟨_, cur, hq⟩ := hS _ e
    rw [k1.blk] at hq
    simp at hq
  · obtain ⟨_, cur, hq⟩ := hS _ e
    exact k1.und.noCells _ _ _ hq
  · have := (hS _ e).1
    omega
  · have := (hS _ e).1
    omega
  · have := (hS _ e).1
    omega
  · obtain ⟨_, cur, hq⟩ := hS _ e
    rw [k2] at hq
    simp at hq
  · rw [List.length_append]
    exact h1
end

section
variable {w : World} {p g m : Nat} {s : DS}
set_option maxRecDepth 100000 in
set_option maxHeartbeats 4000000 in
theorem opened_any (h : DiskAt X w p g m s) : Calls Tryz.prog 50 #[.pointer (some ⟨p, 0, none⟩)] w fun e w' => OpenedPost (recoverF s) X p g m s w e w' := by
  have hmf : ∀ (fn : Fn) (first cap : Array Value) (w : World), (Instr.makeFunc fn first cap).run Tryz.prog w = .ok (.func fn first cap) w := fun _ _ _ _ => rfl
  have hmm := @run_makeMap Tryz.prog
  have HS := Lib.hid (sectors_any h)
  have HZ := Lib.hid (size_any h)
  have hN := h.ok.n2
  obtain ⟨n, hn⟩ : ∃ n, s.sure.length = n := ⟨_, rfl⟩
  obtain ⟨z, hzz⟩ : ∃ z, s.size = z := ⟨_, rfl⟩
  rw [hn] at HS hN
  rw [hzz] at HZ
  by_cases h1 : n < 16
  · have hr : recoverF s = .error 41 := by unfold recoverF; rw [hn, if_pos (.inl h1)]
    rw [hr]
    clear h hn hzz hr
    go_enter Tryz.func50, Tryz.ntmps50
    go_wp2_with (go_at_call 81; refine HS.out.mono ?_; rintro e w' ⟨rfl, rfl⟩)
    go_ret3
    exact ⟨rfl, Below.refl _ _⟩
  · by_cases h2 : z < 128
    · have hr : recoverF s = .error 41 := by unfold recoverF; rw [hn, hzz, if_pos (.inr h2)]
      rw [hr]
      clear h hn hzz hr
      go_enter Tryz.func50, Tryz.ntmps50
      go_wp2_with (first | (go_at_call 81; refine HS.out.mono ?_; rintro e w' ⟨rfl, rfl⟩) | (go_at_call 82; refine HZ.out.mono ?_; rintro e w' ⟨rfl, rfl⟩))
      go_ret3
      exact ⟨rfl, Below.refl _ _⟩
    · have hr : recoverF s = match beginF s 0 with
        | .error x => .error x
        | .ok t => match chainF s t (s.sure.length / 2 + 1) 0 0 with
          | .error x => .error x
          | .ok q => .ok ({ turn := t, next := q.2.2, at_ := q.2.1, count := q.1.length, undone := [] }, q.1) := by unfold recoverF; rw [if_neg (by rw [hn, hzz]; omega)]
      have hz128 : 128 ≤ s.size := by omega
      obtain ⟨W0, hW0⟩ : ∃ W0, ((w.alloc (.map #[] 0)).alloc (.cells #[.pointer (some ⟨p, 0, none⟩), .int .u64 0, .int .u64 0, .int .i64 0, .int .i64 0, .map (some w.heap.size)] 162)).alloc (.cells #[.pointer (some ⟨w.heap.size + 1, 0, none⟩)] 115) = W0 := ⟨_, rfl⟩
      have hx0 : Ext (fun _ => False) w W0 := by rw [← hW0]; exact (((Ext.refl _ w).alloc _).alloc _).alloc _
      have hI0 : OInv X w { turn := 0, next := 0, at_ := 0, count := 0, undone := [] } [] (.slice none 0 0) p g m s W0 := by
        have hdl := h.lt
        refine ⟨⟨?_, ?_, h.kept_ext hx0 id id id (hx0.keepT (fun _ _ _ _ => id)), by omega, fun e => ?_, fun e => ?_⟩, ?_, ⟨[], ⟨rfl, .inl ⟨rfl, rfl⟩⟩, rfl, by intro i v r q; simp at q⟩, hx0.below (fun _ _ h => h) (Nat.le_refl _), hdl⟩
        · rw [← hW0]
          refine (heap_alloc_lt (by simp)).trans ?_
          have := heap_alloc_new (w.alloc (.map #[] 0)) (.cells #[.pointer (some ⟨p, 0, none⟩), .int .u64 0, .int .u64 0, .int .i64 0, .int .i64 0, .map (some w.heap.size)] 162)
          simpa using this
        · refine (MapL.made w Tryz.prog 3).kept ?_
          rw [← hW0]
          exact (heap_alloc_lt (by simp; omega)).trans (heap_alloc_lt (by simp))
        · have := h.low _ e
          omega
        · have := h.low _ e
          omega
        · rw [← hW0]
          have := heap_alloc_new ((w.alloc (.map #[] 0)).alloc (.cells #[.pointer (some ⟨p, 0, none⟩), .int .u64 0, .int .u64 0, .int .i64 0, .int .i64 0, .map (some w.heap.size)] 162)) (.cells #[.pointer (some ⟨w.heap.size + 1, 0, none⟩)] 115)
          simpa using this
      have hbeg := begin_any hI0.log hz128
      have HI0 := Lib.hid hI0
      cases hbf : beginF s 0 with
      | error x =>
        rw [hbf] at hbeg hr
        simp only at hr
        rw [hr]
        have hx1 : (x != 0) = true := by simpa using beginF_no hbf
        have hbeg' : Calls Tryz.prog 83 #[.pointer (some ⟨w.heap.size + 1, 0, none⟩)] W0 fun e w' => e = .returned (.int .i64 x) ∧ Hid (Below w.heap.size w w') := by
          refine hbeg.mono ?_
          rintro e w' ⟨rfl, hx⟩
          exact ⟨rfl, HI0.out.below.trans (hx.below (B := w.heap.size) (fun k hk e => by omega) HI0.out.below.size)⟩
        rw [← hW0] at hbeg'
        have HB := Lib.hid hbeg'
        clear hbeg hbeg' hx0 hI0 HI0 hW0 hbf hr h
        go_enter Tryz.func50, Tryz.ntmps50
        go_wp2_with (first | (go_at_call 81; refine HS.out.mono ?_; rintro e w' ⟨rfl, rfl⟩) | (go_at_call 82; refine HZ.out.mono ?_; rintro e w' ⟨rfl, rfl⟩) | (go_at_call 83; refine HB.out.mono ?_; rintro e w1 ⟨rfl, H1⟩))
        go_ret3
        exact ⟨rfl, H1.out⟩
      | ok t =>
        rw [hbf] at hbeg hr
        simp only at hr
        have hbeg' : Calls Tryz.prog 83 #[.pointer (some ⟨w.heap.size + 1, 0, none⟩)] W0 fun e w' => e = .returned (.int .i64 0) ∧ Hid (OInv X w { turn := t, next := 0, at_ := 0, count := 0, undone := [] } [] (.slice none 0 0) p g m s w') := by
          refine hbeg.mono ?_
          rintro e w' ⟨⟨rfl, hl⟩, hx⟩
          refine ⟨rfl, hl, (hx.block _ (lt_of_heap HI0.out.box) (by omega)).trans HI0.out.box, ⟨[], ⟨rfl, .inl ⟨rfl, rfl⟩⟩, rfl, by intro i v r q; simp at q⟩, HI0.out.below.trans (hx.below (B := w.heap.size) (fun k hk e => by omega) HI0.out.below.size), HI0.out.low⟩
        rw [← hW0] at hbeg'
        have HB := Lib.hid hbeg'
        have HR := Lib.hid hr
        clear hbeg hbeg' hx0 hI0 HI0 hW0 hbf hr h
        go_enter Tryz.func50, Tryz.ntmps50
        go_wp2_with (first | (go_at_call 81; refine HS.out.mono ?_; rintro e w' ⟨rfl, rfl⟩) | (go_at_call 82; refine HZ.out.mono ?_; rintro e w' ⟨rfl, rfl⟩) | (go_at_call 83; refine HB.out.mono ?_; rintro e w1 ⟨rfl, H1⟩))
        go_loopw [7] (fun ov wr => ∃ k : Nat, Hid (∃ a nx f outs, chainF s t (s.sure.length / 2 + 1) 0 0 = preF outs (chainF s t f a nx) ∧ s.sure.length / 2 + 1 ≤ f + a ∧ a ≤ s.sure.length / 2 ∧ nx ≤ a ∧ 4 * outs.length ≤ a * (s.size - 16) ∧ OInv X w { turn := t, next := nx, at_ := a, count := outs.length, undone := [] } outs ov p g m s wr)) (fun _ wr => s.sure.length / 2 + 1 - atOf wr (w.heap.size + 1))
        case atStart => exact ⟨0, 0, 0, _, [], by cases chainF s t (s.sure.length / 2 + 1) 0 0 <;> rfl, Nat.le_refl _, Nat.zero_le _, Nat.le_refl _, by simp, H1.out⟩
        case round =>
          obtain ⟨k, hk⟩ := hrel
          obtain ⟨a, nx, f, outs, hch, hfa, hal, hna, hol, hI⟩ := hk.out
          have hx2 : Ext (fun _ => False) wr ((wr.alloc (.cells #[.slice none 0 0] 108)).alloc (.cells #[.int .i64 0] 3)) := ((Ext.refl _ wr).alloc _).alloc _
          have hI1 := hI.new hx2
          have n1 := (heap_alloc_lt (w := wr.alloc (.cells #[.slice none 0 0] 108)) (o := .cells #[.int .i64 0] 3) (k := wr.heap.size) (by simp)).trans (heap_alloc_new wr (.cells #[.slice none 0 0] 108))
          have n2 := heap_alloc_new (wr.alloc (.cells #[.slice none 0 0] 108)) (.cells #[.int .i64 0] 3)
          simp only [World.size_alloc] at n2
          have hts := try_next hI1.log hz128 (by simp only; omega) (by simp only; omega) hI1.box n1 n2
          simp only at hts
          have hbz := hI.below.size
          have hbx := lt_of_heap hI.box
          have hW : ∀ w', Ext (fun k => k = wr.heap.size ∨ k = wr.heap.size + 1) ((wr.alloc (.cells #[.slice none 0 0] 108)).alloc (.cells #[.int .i64 0] 3)) w' → OInv X w { turn := t, next := nx, at_ := a, count := outs.length, undone := [] } outs u7 p g m s w' := by
            intro w' hx
            exact hI.new (hx2.andThen hx (fun i hi h => by omega))
          obtain ⟨f', rfl⟩ : ∃ f', f = f' + 1 := ⟨f - 1, by omega⟩
          have HCH := Lib.hid (And.intro hch (And.intro hfa (And.intro hal (And.intro hna (And.intro hol hI)))))
          have HW := Lib.hid hW
          have HHZ := Lib.hid hz128
          clear hk hch hfa hal hna hol hI hx2 hI1 n1 n2 hbz hbx hW hz128
          cases hnf : nextF s t a nx with
          | error x =>
            rw [hnf] at hts
            have hts' : Calls Tryz.prog 84 #[.func (.func 85) #[] #[.pointer (some ⟨w.heap.size + 1 + 1, 0, none⟩), .pointer (some ⟨wr.heap.size, 0, none⟩), .pointer (some ⟨wr.heap.size + 1, 0, none⟩)]] ((wr.alloc (.cells #[.slice none 0 0] 108)).alloc (.cells #[.int .i64 0] 3)) fun e w' =>
                e = .returned (.tuple #[.bool false, .int .i64 x]) ∧ w'.cell? ⟨w.heap.size + 1 + 1, 0, none⟩ = some (.pointer (some ⟨w.heap.size + 1, 0, none⟩)) ∧ Hid (OInv X w { turn := t, next := nx, at_ := a, count := outs.length, undone := [] } outs u7 p g m s w') := by
              refine hts.mono ?_
              rintro e w' ⟨h1, h2⟩
              have h3 := HW.out w' h2
              have h4 := cell_of_block h3.box 0
              simp at h4
              exact ⟨h1, h4, h3⟩
            have HTS := Lib.hid hts'
            have HNF := Lib.hid hnf
            clear hts hts' hnf
            by_cases hx0 : x = 0
            · subst hx0
              go_wp2_with (go_at_call 84; refine HTS.out.mono ?_; rintro e w2 ⟨rfl, q1, H2⟩)
              go_ret3
              rw [HR.out, HCH.out.1, chainF_end HNF.out]
              simp only [preF, List.append_nil]
              obtain ⟨cs, h1, h2⟩ := H2.out.own
              exact ⟨⟨_, _, _, cs, rfl, by omega, Nat.le_refl _, H2.out.log, h1, h2⟩, H2.out.below⟩
            · have hx1 : (x != 0) = true := by simpa using hx0
              go_wp2_with (go_at_call 84; refine HTS.out.mono ?_; rintro e w2 ⟨rfl, q1, H2⟩)
              go_ret3
              rw [HR.out, HCH.out.1, chainF_stop HNF.out hx0]
              simp only [preF]
              exact ⟨rfl, H2.out.below⟩
          | ok r =>
            obtain ⟨rs, bh⟩ := r
            rw [hnf] at hts
            obtain ⟨hk1, hk2, hk3⟩ := nextF_ok HHZ.out hnf
            simp only at hk1 hk2 hk3
            obtain ⟨hch, hfa, hal, hna, hol, hI⟩ := HCH.out
            have hz2 : s.size - 16 ≤ 4096 := by have := hI.log.disk.ok.z2; omega
            have ho1 : a * (s.size - 16) ≤ 2048 * 4096 := Nat.mul_le_mul (by omega) hz2
            have ho2 : (bh - a) * (s.size - 16) ≤ 2048 * 4096 := Nat.mul_le_mul (by omega) hz2
            have hou : outs.length ≤ 2097152 := by omega
            have hru : rs.length ≤ 2097152 := by omega
            have hnx : nx ≤ 2048 := by omega
            have hah : a ≤ 2048 := by omega
            have hsum : 4 * (outs.length + rs.length) ≤ bh * (s.size - 16) := by
              have h1 : bh * (s.size - 16) = a * (s.size - 16) + (bh - a) * (s.size - 16) := by rw [← Nat.add_mul]; congr 1; omega
              omega
            have hts' : Calls Tryz.prog 84 #[.func (.func 85) #[] #[.pointer (some ⟨w.heap.size + 1 + 1, 0, none⟩), .pointer (some ⟨wr.heap.size, 0, none⟩), .pointer (some ⟨wr.heap.size + 1, 0, none⟩)]] ((wr.alloc (.cells #[.slice none 0 0] 108)).alloc (.cells #[.int .i64 0] 3)) fun e w' =>
                ∃ va vc cs cs', e = .returned (.tuple #[.bool true, .int .i64 0]) ∧ w'.cell? ⟨wr.heap.size, 0, none⟩ = some (.slice va rs.length vc) ∧
                Hid (w'.ownsRow w.heap.size 114 1 u7 outs.length cs ∧ Rd w' 114 1 (.slice va rs.length vc) rs.length cs' ∧ (∀ u ∈ cs', u.oneCell' = true) ∧ w.heap.size ≤ w'.heap.size ∧
                  ∀ v7 w4, w4.ownsRow w.heap.size 114 1 v7 (outs.length + rs.length) (cs ++ cs') → w'.grownBy w4 u7.ownBlock →
                    w4.cell? ⟨w.heap.size + 1 + 1, 0, none⟩ = some (.pointer (some ⟨w.heap.size + 1, 0, none⟩)) ∧ w4.cell? ⟨wr.heap.size, 0, none⟩ = some (.slice va rs.length vc) ∧ w4.cell? ⟨wr.heap.size + 1, 0, none⟩ = some (.int .i64 bh) ∧
                    w4.cell? ⟨w.heap.size + 1, 2, none⟩ = some (.int .u64 nx) ∧ w4.cell? ⟨w.heap.size + 1, 3, none⟩ = some (.int .i64 a) ∧ w4.cell? ⟨w.heap.size + 1, 4, none⟩ = some (.int .i64 outs.length) ∧
                    w4.frozen? ⟨w.heap.size + 1, 2, none⟩ = false ∧ w4.frozen? ⟨w.heap.size + 1, 3, none⟩ = false ∧ w4.frozen? ⟨w.heap.size + 1, 4, none⟩ = false ∧
                    Hid (OInv X w { turn := t, next := nx, at_ := a, count := outs.length, undone := [] } (outs ++ rs) v7 p g m s w4)) := by
              refine hts.mono ?_
              rintro e w' ⟨⟨rfl, v, cs', q8, q9, q1, q2⟩, h2⟩
              obtain ⟨va, vc, rfl⟩ := (Rd.of_own q1).form
              have h3 := HW.out w' h2
              obtain ⟨cs, h4, h5⟩ := h3.own
              have h8 := cell_of_block q8 0
              simp at h8
              refine ⟨va, vc, cs, cs', rfl, h8, h4, Rd.of_own q1, ?_, h3.below.size, ?_⟩
              · intro u hu
                obtain ⟨i, hi, rfl⟩ := List.getElem_of_mem hu
                obtain ⟨a', c', e1⟩ := (q2.2 i _ _ (List.getElem?_eq_getElem hi) (List.getElem?_eq_getElem (by rw [← q2.1]; exact hi))).form
                rw [e1]
                rfl
              · intro v7 w4 o1 o2
                have h6 := h3.app q2 h4 h5 o1 o2
                have hnb : ∀ (b : Nat) (cur : Array Value) (e : TypeId) (fr : Nat × Nat), e ≠ 114 → w'.heap[b]? = some (Obj.cells cur e fr) → w4.heap[b]? = some (Obj.cells cur e fr) := fun b cur e fr he hq => grown_keepT h4 o2 he b cur fr hq
                have r8 := cell_of_block (hnb _ _ _ _ (by decide) q8) 0
                have r9 := cell_of_block (hnb _ _ _ _ (by decide) q9) 0
                have r0 := cell_of_block h6.box 0
                have r2 := cell_of_block h6.log.blk 2
                have r3 := cell_of_block h6.log.blk 3
                have r4 := cell_of_block h6.log.blk 4
                simp at r8 r9 r0 r2 r3 r4
                exact ⟨r0, r8, r9, r2, r3, r4, free_of_block h6.log.blk 2, free_of_block h6.log.blk 3, free_of_block h6.log.blk 4, h6⟩
            have HTS := Lib.hid hts'
            have HNF := Lib.hid hnf
            have HSUM := Lib.hid (And.intro hsum (And.intro hk1 hk2))
            clear hts hts' hnf hk1 hk2 hk3 hch hfa hal hna hol hI hz2 ho1 ho2 hsum
            go_wp2_with (first | (go_at_call 84; refine HTS.out.mono ?_; rintro e w2 ⟨va, vc, cs, cs', rfl, q1, H2⟩) | (at_builtin; refine wpList_app rfl (.tmp 47) (.tmp 48) 108 rfl w.heap.size 114 1 24 (.slice none 0 0) Tryz.underlying108 (by kernel_rfl) rfl (by omega) u7 outs.length cs rfl H2.out.1 _ rs.length cs' 114 rfl H2.out.2.1 H2.out.2.2.1 (by simp only [maxLen]; omega) (by omega) H2.out.2.2.2.1 ?_; intro v7 w4 o1 o2 _; obtain ⟨c0, c8, c9, c2, c3, c4, f2, f3, f4, H4⟩ := H2.out.2.2.2.2 v7 w4 o1 o2; clear o1 o2))
            go_region
            have q3 := H4.out.set (l' := { turn := t, next := nx, at_ := bh, count := outs.length, undone := [] }) 3 (.int .i64 bh) rfl rfl
            have q2 := q3.set (l' := { turn := t, next := nx + 1, at_ := bh, count := outs.length, undone := [] }) 2 (.int .u64 ((nx : Int) + 1)) rfl rfl
            have q4 := q2.set (l' := { turn := t, next := nx + 1, at_ := bh, count := outs.length + rs.length, undone := [] }) 4 (.int .i64 ((outs.length : Int) + (rs.length : Int))) rfl rfl
            have qf := q4.new (w1 := ((((w4.setCell ⟨w.heap.size + 1, 3, none⟩ (.int .i64 bh)).setCell ⟨w.heap.size + 1, 2, none⟩ (.int .u64 ((nx : Int) + 1))).setCell ⟨w.heap.size + 1, 4, none⟩ (.int .i64 ((outs.length : Int) + (rs.length : Int)))).drew)) ((Ext.refl _ _).drew)
            have hat := qf.log.atOf
            simp only at hat
            have hat0 := HCH.out.2.2.2.2.2.log.atOf
            simp only at hat0
            obtain ⟨hch, hfa, hal, hna, hol, hI⟩ := HCH.out
            obtain ⟨hsum, hk1, hk2⟩ := HSUM.out
            have hfin : Hid (∃ a2 n2 f2 o2, chainF s t (s.sure.length / 2 + 1) 0 0 = preF o2 (chainF s t f2 a2 n2) ∧ s.sure.length / 2 + 1 ≤ f2 + a2 ∧ a2 ≤ s.sure.length / 2 ∧ n2 ≤ a2 ∧ 4 * o2.length ≤ a2 * (s.size - 16) ∧ OInv X w { turn := t, next := n2, at_ := a2, count := o2.length, undone := [] } o2 v7 p g m s
                ((((w4.setCell ⟨w.heap.size + 1, 3, none⟩ (.int .i64 bh)).setCell ⟨w.heap.size + 1, 2, none⟩ (.int .u64 ((nx : Int) + 1))).setCell ⟨w.heap.size + 1, 4, none⟩ (.int .i64 ((outs.length : Int) + (rs.length : Int)))).drew)) := by
              refine ⟨bh, nx + 1, f', outs ++ rs, ?_, by omega, hk2, by omega, by rw [List.length_append]; exact hsum, ?_⟩
              · rw [hch, chainF_next HNF.out, preF_pre]
              · rw [List.length_append]
                exact qf
            clear q3 q2 q4 qf hch hfa hna hol hI hsum
            go_roundw
            case rel =>
              (repeat apply Exists.intro)
              exact ⟨⟨k, hfin⟩, rfl⟩
            case measure =>
              rw [hat, hat0]
              omega
end
end Go.Proofs.YtekolejeliefdaaGreat
