/- A region that asks for its order: what yields its value in every world that meets S may be taken first; behind an operation that waits for all others S need not hold. No program in sight. -/
import Derived.OrdersHeld
import Derived.StillTail
import Derived.WalkKit
import Derived.KernelRfl
set_option linter.unusedVariables false
set_option linter.unusedSimpArgs false
namespace Go.Proofs.YtekolejeliefdaaGreat
variable {P : Program} {ops : Array Oper} {Q : Exit → Act → World → Prop} {S : World → Prop}

/-- Does the last number wait, by steps, for all others? -/
def sinkOK (ops : Array Oper) : Bool := Region.sinkB .any ops (ops.size - 1) && Region.chainB .any ops (ops.size - 1) && decide (0 < ops.size)
/-- Is number j the last, and does it wait for all others? -/
def lastB (ops : Array Oper) (j : Nat) : Bool := j + 1 == ops.size && sinkOK ops
/-- The static side of what has come up: whatever has, all that it waits for has; the last has not. -/
def headB (ops : Array Oper) (listed : Array Bool) : Bool :=
  !sinkOK ops || (listed.size == ops.size && !listed.getD (ops.size - 1) true &&
    (List.range ops.size).all fun j => !listed.getD j false || ((ops[j]?).map (·.after.all fun e => !Region.binds .any e || listed.getD e.on false)).getD true)
theorem headB_spec {listed : Array Bool} (h : headB ops listed = true) (hs : sinkOK ops = true) : HeadInv .any ops (ops.size - 1) listed := by
  simp only [headB, hs, Bool.not_true, Bool.false_or, Bool.and_eq_true, beq_iff_eq, List.all_eq_true, List.mem_range, Bool.or_eq_true, Bool.not_eq_true'] at h
  obtain ⟨⟨h1, h2⟩, h3⟩ := h
  refine ⟨h1, fun j oj hj hl e he hb => ?_, fun t ht ht' => ?_⟩
  · rcases h3 j (Array.getElem?_eq_some_iff.1 hj).1 with h4 | h4
    · rw [hl] at h4
      cases h4
    · rw [hj] at h4
      simp only [Option.map_some, Option.getD_some, Array.all_eq_true'] at h4
      have := h4 e he
      simp only [Bool.or_eq_true, Bool.not_eq_true'] at this
      exact this.resolve_left (by rw [hb]; exact Bool.noConfusion)
  · obtain rfl : t = ops.size - 1 := by omega
    exact h2

/-- Whatever order is picked from here on; S holds behind each operation but for one that waits for all others. -/
def AnyX (P : Program) (ops : Array Oper) (Q : Exit → Act → World → Prop) (S : World → Prop) : Nat → Array Bool → Act → World → Prop
  | 0, listed, a, w => Region.ready .any ops listed = [] ∧ Q .normal a w
  | f + 1, listed, a, w => (Region.ready .any ops listed = [] → Q .normal a w) ∧
    ∀ i ∈ Region.ready .any ops listed, wpOp P ops Q i (fun a' w' => (S w' ∨ lastB ops i = true) ∧ AnyX P ops Q S f (listed.setIfInBounds i true) a' w') a w

theorem AnyX.any : ∀ (f : Nat) (listed : Array Bool) (a : Act) (w : World), AnyX P ops Q S f listed a w → wpAny P .any ops Q f listed a w
  | 0, _, _, _, h => h
  | f + 1, _, _, _, h => ⟨h.1, fun i hi => wpOp_mono (fun a' w' q => AnyX.any f _ a' w' q.2) (h.2 i hi)⟩

theorem AnyX.first {i : Nat} {oi : Oper} {v : Value} (hi : ops[i]? = some oi) (hsel : ∀ (j : Nat) (o : Oper) cs b, ops[j]? = some o → o.op ≠ .select cs b)
    (hQ : ∀ c a w, Q (.panic c) (a.put oi.dst v) w → Q (.panic c) a w) : ∀ (f : Nat) (listed : Array Bool) (a : Act) (w : World),
      (∀ j oj, ops[j]? = some oj → j ≠ i → listed.getD j true = false → (∀ e ∈ oj.after, Region.binds .any e = true → e.on ≠ i) → oi.apart ops oj = true) →
      i ∈ Region.ready .any ops listed → YieldsIf P ops S oi v a → S w → (sinkOK ops = true → HeadInv .any ops (ops.size - 1) listed) →
      AnyX P ops Q S f (listed.setIfInBounds i true) (a.put oi.dst v) w → AnyX P ops Q S (f + 1) listed a w
  | f, listed, a, w, hfree, hr, hy, hS, hinv, H => by
    refine ⟨fun h => (by rw [h] at hr; cases hr), fun j hj => ?_⟩
    by_cases hji : j = i
    · subst hji
      exact hy.wpOp hi hS ⟨.inl hS, H⟩
    have hrj := ready_mono hj hji
    obtain ⟨hun, oj, hoj, hall⟩ := mem_ready.1 hj
    have hnot : ∀ e ∈ oj.after, Region.binds .any e = true → e.on ≠ i := by
      intro e he hb heq
      have h1 := hall e he hb
      have h0 := (mem_ready.1 hr).1
      rw [heq] at h1
      rcases Nat.lt_or_ge i listed.size with h' | h'
      · simp [h'] at h0 h1
        rw [h0] at h1
        cases h1
      · simp [Array.getElem?_eq_none h'] at h1
    have hil : i < ops.size := (Array.getElem?_eq_some_iff.1 hi).1
    have hjl : j < ops.size := (Array.getElem?_eq_some_iff.1 hoj).1
    have hne : sinkOK ops = true → j ≠ ops.size - 1 := by
      intro hs hjn
      have hiu := (mem_ready.1 hr).1
      simp only [sinkOK, Bool.and_eq_true, decide_eq_true_eq] at hs
      exact tail_waits hs.1.1 hs.1.2 (by omega) (hinv (by simp only [sinkOK, Bool.and_eq_true, decide_eq_true_eq]; exact hs)) _ i rfl (by omega) hiu j (by omega) hj
    have hlast : lastB ops j = false := by
      rw [Bool.eq_false_iff]
      intro hl
      simp only [lastB, Bool.and_eq_true, beq_iff_eq] at hl
      exact hne hl.2 (by omega)
    cases f with
    | zero => rw [H.1] at hrj; cases hrj
    | succ f =>
      have hswap := wpOp_putIf hoj (hfree j oj hoj hji hun hnot) (fun cs b => hsel i oi cs b hi) (fun cs b => hsel j oj cs b hoj) hQ hy (H.2 j hrj)
      refine wpOp_mono (fun a' w' q => ?_) hswap
      obtain ⟨qy, qs, qn⟩ := q
      have hs' : S w' := qs.resolve_right (by rw [hlast]; exact Bool.false_ne_true)
      refine ⟨.inl hs', AnyX.first hi hsel hQ f (listed.setIfInBounds j true) a' w' ?_ (ready_mono hr (Ne.symm hji)) qy hs' (fun hs => (hinv hs).set hj (by have := hne hs; omega)) ?_⟩
      · intro k ok hk hki hkun hno
        refine hfree k ok hk hki ?_ hno
        by_cases hjk : j = k
        · subst hjk
          exact hun
        · rwa [getD_set_ne true hjk] at hkun
      · rw [Array.setIfInBounds_comm _ _ hji]
        exact qn

/-- The static side of taking number i first. -/
def takeB (ops : Array Oper) (listed : Array Bool) (i : Nat) : Bool := Region.noSelect ops && Region.free .any ops listed i && (Region.ready .any ops listed).contains i && headB ops listed

theorem at_drop {i : Nat} {oi : Oper} {r : List Oper} (h : ops.toList.drop i = oi :: r) : ops[i]? = some oi := by
  rw [← Array.getElem?_toList]
  have := congrArg List.head? h
  rwa [List.head?_drop] at this
/-- Take number i first. -/
theorem AnyX.take (i : Nat) {oi : Oper} {r : List Oper} {v : Value} {f : Nat} {listed : Array Bool} {a : Act} {w : World} (hi' : ops.toList.drop i = oi :: r) (hb : takeB ops listed i = true)
    (hQ : ∀ c a w, Q (.panic c) (a.put oi.dst v) w → Q (.panic c) a w) (hS : S w) (hg : oi.guard = none) (hy : ∀ w, S w → (execOp a.eval oi).run P w = .ok (.value v) w)
    (h : AnyX P ops Q S f (listed.setIfInBounds i true) (a.put oi.dst v) w) : AnyX P ops Q S (f + 1) listed a w := by
  have hi := at_drop hi'
  simp only [takeB, Bool.and_eq_true] at hb
  exact AnyX.first hi (Region.noSelect_spec hb.1.1.1) hQ f listed a w (Region.free_spec hi hb.1.1.2) (by simpa using hb.1.2) (.inl ⟨by simp [Region.wanted, hg], hy⟩) hS (headB_spec hb.2) h

/-- Take number i first, which its guard asks for. -/
theorem AnyX.takeW (i : Nat) {oi : Oper} {r : List Oper} {v : Value} {f : Nat} {listed : Array Bool} {a : Act} {w : World} (hi' : ops.toList.drop i = oi :: r) (hb : takeB ops listed i = true)
    (hQ : ∀ c a w, Q (.panic c) (a.put oi.dst v) w → Q (.panic c) a w) (hS : S w) (hg : Region.wanted oi (yielded ops a.tmps) = true) (hy : ∀ w, S w → (execOp a.eval oi).run P w = .ok (.value v) w)
    (h : AnyX P ops Q S f (listed.setIfInBounds i true) (a.put oi.dst v) w) : AnyX P ops Q S (f + 1) listed a w := by
  have hi := at_drop hi'
  simp only [takeB, Bool.and_eq_true] at hb
  exact AnyX.first hi (Region.noSelect_spec hb.1.1.1) hQ f listed a w (Region.free_spec hi hb.1.1.2) (by simpa using hb.1.2) (.inl ⟨hg, hy⟩) hS (headB_spec hb.2) h
/-- Take number i first, which its guard passes over. -/
theorem AnyX.takeU (i : Nat) {oi : Oper} {r : List Oper} {f : Nat} {listed : Array Bool} {a : Act} {w : World} (hi' : ops.toList.drop i = oi :: r) (hb : takeB ops listed i = true)
    (hQ : ∀ c a w, Q (.panic c) (a.put oi.dst undef) w → Q (.panic c) a w) (hS : S w) (hg : Region.wanted oi (yielded ops a.tmps) = false)
    (h : AnyX P ops Q S f (listed.setIfInBounds i true) (a.put oi.dst undef) w) : AnyX P ops Q S (f + 1) listed a w := by
  have hi := at_drop hi'
  simp only [takeB, Bool.and_eq_true] at hb
  exact AnyX.first hi (Region.noSelect_spec hb.1.1.1) hQ f listed a w (Region.free_spec hi hb.1.1.2) (by simpa using hb.1.2) (.inr ⟨hg, rfl⟩) hS (headB_spec hb.2) h
/-- Only number i may come up, which its guard asks for; behind it S is shown anew. -/
theorem AnyX.actW (i : Nat) {oi : Oper} {r : List Oper} {f : Nat} {listed : Array Bool} {a : Act} {w : World} (hi' : ops.toList.drop i = oi :: r) (hr : Region.ready .any ops listed = [i]) (hg : Region.wanted oi (yielded ops a.tmps) = true)
    (h : ∀ K : Act → World → Prop, (∀ a w, S w → AnyX P ops Q S f (listed.setIfInBounds i true) a w → K a w) → oi.wp P a w K Q) : AnyX P ops Q S (f + 1) listed a w := by
  have hi := at_drop hi'
  refine ⟨fun h0 => (by rw [hr] at h0; cases h0), fun j hj => ?_⟩
  rw [hr] at hj
  obtain rfl : j = i := by simpa using hj
  unfold wpOp
  simp only [hi, hg, if_true]
  exact .inl (h _ fun a w hs hn => ⟨.inl hs, hn⟩)

/-- Only number i may come up; behind it S is shown anew. -/
theorem AnyX.act (i : Nat) {oi : Oper} {r : List Oper} {f : Nat} {listed : Array Bool} {a : Act} {w : World} (hi' : ops.toList.drop i = oi :: r) (hr : Region.ready .any ops listed = [i]) (hg : oi.guard = none)
    (h : ∀ K : Act → World → Prop, (∀ a w, S w → AnyX P ops Q S f (listed.setIfInBounds i true) a w → K a w) → oi.wp P a w K Q) : AnyX P ops Q S (f + 1) listed a w := by
  have hi := at_drop hi'
  refine ⟨fun h0 => (by rw [hr] at h0; cases h0), fun j hj => ?_⟩
  rw [hr] at hj
  obtain rfl : j = i := by simpa using hj
  unfold wpOp
  simp only [hi, Region.wanted, hg, if_true]
  exact .inl (h _ fun a w hs hn => ⟨.inl hs, hn⟩)

/-- Either of two numbers may come up; behind it S is shown anew. -/
theorem AnyX.act2 (i j : Nat) {oi oj : Oper} {f : Nat} {listed : Array Bool} {a : Act} {w : World} (hi : ops[i]? = some oi) (hj : ops[j]? = some oj) (hr : Region.ready .any ops listed = [i, j]) (hgi : oi.guard = none) (hgj : oj.guard = none)
    (h1 : ∀ K : Act → World → Prop, (∀ a w, S w → AnyX P ops Q S f (listed.setIfInBounds i true) a w → K a w) → oi.wp P a w K Q)
    (h2 : ∀ K : Act → World → Prop, (∀ a w, S w → AnyX P ops Q S f (listed.setIfInBounds j true) a w → K a w) → oj.wp P a w K Q) : AnyX P ops Q S (f + 1) listed a w := by
  refine ⟨fun h0 => (by rw [hr] at h0; cases h0), fun k hk => ?_⟩
  rw [hr] at hk
  unfold wpOp
  rcases List.mem_cons.1 hk with rfl | hk
  · simp only [hi, Region.wanted, hgi, if_true]
    exact .inl (h1 _ fun a w hs hn => ⟨.inl hs, hn⟩)
  · obtain rfl : k = j := by simpa using hk
    simp only [hj, Region.wanted, hgj, if_true]
    exact .inl (h2 _ fun a w hs hn => ⟨.inl hs, hn⟩)

/-- Number i waits for all others, and is the last. -/
theorem AnyX.end_ (i : Nat) {oi : Oper} {r : List Oper} {f : Nat} {listed : Array Bool} {a : Act} {w : World} (hi' : ops.toList.drop i = oi :: r) (hr : Region.ready .any ops listed = [i]) (hl : lastB ops i = true)
    (hn : Region.ready .any ops (listed.setIfInBounds i true) = []) (hg : oi.guard = none) (h : wpList P ops Q [oi] a w) : AnyX P ops Q S (f + 1) listed a w := by
  have hi := at_drop hi'
  refine ⟨fun h0 => (by rw [hr] at h0; cases h0), fun j hj => ?_⟩
  rw [hr] at hj
  obtain rfl : j = i := by simpa using hj
  unfold wpOp
  simp only [hi, Region.wanted, hg, if_true]
  unfold wpList at h
  simp only [Region.wanted, hg, if_true] at h
  refine h.imp (fun h => Oper.wp_mono (fun a w q => ⟨.inr hl, ?_⟩) h) id
  cases f with
  | zero => exact ⟨hn, q⟩
  | succ f => exact ⟨fun _ => q, by rw [hn]; intro k hk; cases hk⟩

theorem AnyX.done {f : Nat} {listed : Array Bool} {a : Act} {w : World} (hn : Region.ready .any ops listed = []) (h : Q .normal a w) : AnyX P ops Q S f listed a w := by
  cases f with
  | zero => exact ⟨hn, h⟩
  | succ f => exact ⟨fun _ => h, by rw [hn]; intro k hk; cases hk⟩

theorem region_X (S : World → Prop) {id : Nat} {l : List Oper} {a : Act} {w : World} (hm : P.follows .mixedOrders = true)
    (h : AnyX P l.toArray Q S l.length (Array.replicate l.length false) a w.drew) : (Code.region id l.toArray true).wp P Q a w :=
  wp_region_any hm (by simpa using AnyX.any _ _ _ _ h)
end Go.Proofs.YtekolejeliefdaaGreat
