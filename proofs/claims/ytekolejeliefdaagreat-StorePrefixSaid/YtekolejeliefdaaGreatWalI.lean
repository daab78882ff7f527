/- The log: reading that may stop: the deferred closure that recovers. -/
import Derived.Test.YtekolejeliefdaaGreatWalH
import Derived.Defers
import Derived.Recover
set_option linter.unusedVariables false
set_option linter.unusedSimpArgs false
namespace Go.Proofs.YtekolejeliefdaaGreat
open Go.RowKit
variable {X : Nat → Prop}

/-- The deferred closure of try behind a body that returned: it turns nothing. -/
theorem try1_idle (p q : Addr) (w : World) :
    CallsD Tryz.prog 127 #[.pointer (some p), .pointer (some q)] .returning w fun e u' w' => e = .returned (.tuple #[]) ∧ u' = .returning ∧ w = w' := by
  refine callsD_of_wpS Tryz.func127 rfl fun c₀ cs hu => ?_
  apply wpS_seq
  apply wpS_region
  simp [wpOpsS, go_sem, recoverD, hu, Tryz.ntmps127, Exit.thenS]
  apply wpS_seq
  apply wpS_region
  simp [wpOpsS, go_sem, Exit.thenS]
  refine wpS_cond (t := false) (by simp [Act.eval, Array.replicate]) ?_
  simp only [Bool.false_eq_true, if_false]
  refine wpS_of_wp (wp_skip ?_)
  cases c₀
  simp_all [bodyPostS, results, Tryz.results127, Exit.thenS]

set_option maxRecDepth 100000 in
set_option maxHeartbeats 1000000 in
/-- .. behind a body that stopped: the two results. -/
theorem try1_stop (a b : Nat) (x : Int) (w : World) {va vb : Value} (ha : w.heap[a]? = some (.cells #[va] 4 (0, 0))) (hb : w.heap[b]? = some (.cells #[vb] 30 (0, 0))) (hab : a ≠ b) :
    CallsD Tryz.prog 127 #[.pointer (some ⟨a, 0, none⟩), .pointer (some ⟨b, 0, none⟩)] (.panicking [{ v := stopV x, recovered := false }]) w fun e u' w' =>
      e = .returned (.tuple #[]) ∧ u' = .panicking [{ v := stopV x, recovered := true }] ∧ w'.heap[a]? = some (.cells #[.bool false] 4 (0, 0)) ∧ w'.heap[b]? = some (.cells #[.int .i64 x] 30 (0, 0)) ∧ Ext (fun k => k = a ∨ k = b) w w' := by
  have ca := cell_of_block ha 0
  have cb := cell_of_block hb 0
  have fa := free_of_block ha 0
  have fb := free_of_block hb 0
  have la := lt_of_heap ha
  have lb := lt_of_heap hb
  simp at ca cb
  refine callsD_of_wpS Tryz.func127 rfl fun c₀ cs hu => ?_
  apply wpS_seq
  apply wpS_region
  simp [wpOpsS, go_sem, recoverD, hu, Tryz.ntmps127, Exit.thenS]
  apply wpS_seq
  apply wpS_region
  simp [wpOpsS, go_sem, Exit.thenS, stopV]
  refine wpS_cond (t := true) (by simp [Act.eval, Array.replicate]) ?_
  simp only [if_true]
  refine wpS_of_wp ?_
  refine wp_mono (Q := fun e a' w' => e = .normal ∧ a'.defers = [] ∧ w'.heap[a]? = some (.cells #[.bool false] 4 (0, 0)) ∧ w'.heap[b]? = some (.cells #[.int .i64 x] 30 (0, 0)) ∧ Ext (fun k => k = a ∨ k = b) w w') ?_ ?_
  · have he : ((#[Value.pointer (some { block := a, off := 0 }), Value.pointer (some { block := b, off := 0 })] ++
          ((((Array.replicate 16 undef).setIfInBounds 3
                        (Value.iface 203 (Value.agg #[Value.int IntKind.i64 x]))).setIfInBounds
                    0 (Value.iface 203 (Value.agg #[Value.int IntKind.i64 x]))).setIfInBounds
                4 (Value.iface 203 (Value.agg #[Value.int IntKind.i64 x]))).setIfInBounds
            5 (Value.bool true)) : Array Value) = #[Value.pointer (some { block := a, off := 0 }), Value.pointer (some { block := b, off := 0 }), .iface 203 (Value.agg #[Value.int IntKind.i64 x]), undef, undef, .iface 203 (Value.agg #[Value.int IntKind.i64 x]), .iface 203 (Value.agg #[Value.int IntKind.i64 x]), .bool true, undef, undef, undef, undef, undef, undef, undef, undef, undef, undef] := by kernel_rfl
    rw [he]
    clear he hu
    generalize hQQ : (fun (e : Exit) (a' : Act) (w' : World) => e = .normal ∧ a'.defers = [] ∧ w'.heap[a]? = some (.cells #[.bool false] 4 (0, 0)) ∧ w'.heap[b]? = some (.cells #[.int .i64 x] 30 (0, 0)) ∧ Ext (fun k => k = a ∨ k = b) w w') = QQ
    have HQQ := Lib.hid hQQ
    have HAB := Lib.hid (And.intro ha hb)
    clear hQQ ha hb
    have hta : ∀ w, (Instr.typeAssert (.iface 203 (.agg #[.int .i64 x])) 20 203 true).run Tryz.prog w = .ok (.tuple #[.agg #[.int .i64 x], .bool true]) w := fun _ => by kernel_rfl
    go_wp2
    go_region
    rw [← HQQ.out]
    obtain ⟨ha, hb⟩ := HAB.out
    have h1 := heap_setCell_at (i := 0) ha (.bool false)
    have h2 : (w.setCell ⟨a, 0, none⟩ (.bool false)).heap[b]? = some (.cells #[vb] 30 (0, 0)) := (heap_setCell_ne (by simpa using Ne.symm hab) _).trans hb
    have h3 := heap_setCell_at (i := 0) h2 (.int .i64 x)
    refine ⟨rfl, rfl, ?_, ?_, ?_⟩
    · exact (heap_alloc_lt (by simp [World.setCell]; exact la)).trans ((heap_setCell_ne (by simpa using hab) _).trans h1)
    · exact (heap_alloc_lt (by simp [World.setCell]; exact lb)).trans h3
    · exact ((((Ext.refl _ w).setCell (fun _ => .inl rfl) _).setCell (fun _ => .inr rfl) _).alloc _).drew
  · rintro e a' w' ⟨rfl, h1, h2, h3, h4⟩
    exact ⟨h1, _, rfl, .tuple #[], by simp [results, Tryz.results127, go_sem], rfl, rfl, h2, h3, h4⟩

/-- What try hands back: was it whole, an error. -/
def tryV (e : Ending) : Value := match e with
  | .panicked [{ v := .iface _ (.agg #[.int _ x]), .. }] => .tuple #[.bool false, .int .i64 x]
  | _ => .tuple #[.bool true, .int .i64 0]
theorem tryV_ok : tryV (.returned (.tuple #[])) = .tuple #[.bool true, .int .i64 0] := rfl
theorem tryV_stop (x : Int) : tryV (.panicked [{ v := stopV x, recovered := false }]) = .tuple #[.bool false, .int .i64 x] := rfl
set_option maxRecDepth 100000 in
set_option maxHeartbeats 1000000 in
/-- try calls what it is handed, and tells whether that stopped. -/
theorem try_any {cl : Nat} {cap : Array Value} {w : World} {Q : Ending → World → Prop} (hu : cl = 126 ∨ cl = 85)
    (hc : Calls Tryz.prog cl cap ((w.alloc (.cells #[.bool false] 4)).alloc (.cells #[.int .i64 0] 30)) Q)
    (hq : ∀ e w', Q e w' → (e = .returned (.tuple #[]) ∨ ∃ x, e = .panicked [{ v := stopV x, recovered := false }]) ∧ w'.heap[w.heap.size]? = some (.cells #[.bool false] 4 (0, 0)) ∧ w'.heap[w.heap.size + 1]? = some (.cells #[.int .i64 0] 30 (0, 0))) :
    Calls Tryz.prog 84 #[.func (.func cl) #[] cap] w fun e w' => ∃ e0 w0, Q e0 w0 ∧ e = .returned (tryV e0) ∧ Ext (fun k => k = w.heap.size ∨ k = w.heap.size + 1) w0 w' := by
  have hmf : ∀ (fn : Fn) (first cap : Array Value) (w : World), (Instr.makeFunc fn first cap).run Tryz.prog w = .ok (.func fn first cap) w := fun _ _ _ _ => rfl
  have HC := Lib.hid hc
  have HQ := Lib.hid hq
  have hcf : ∀ w, (callFunc cl cap).run Tryz.prog w = .ok (.enter cl cap) w := by
    rcases hu with rfl | rfl <;> exact fun _ => by kernel_rfl
  clear hc hq hu
  go_enter_defers Tryz.func84, Tryz.ntmps84
  go_wp2_with fail
  refine HC.out.mono ?_
  intro e w1 hqe
  obtain ⟨he, hb1, hb2⟩ := HQ.out e w1 hqe
  have c1 := cell_of_block hb1 0
  have c2 := cell_of_block hb2 0
  simp at c1 c2
  have f1 := free_of_block hb1 0
  have f2 := free_of_block hb2 0
  have H := Lib.hid (And.intro hqe (And.intro hb1 hb2))
  clear hqe hb1 hb2
  rcases he with rfl | ⟨x, rfl⟩
  · go_wp2_with fail
    refine leaves_cons (f := 127) (args := #[.pointer (some ⟨w.heap.size, 0, none⟩), .pointer (some ⟨w.heap.size + 1, 0, none⟩)]) (by simp) (by simp [go_sem]) ?_
    refine (try1_idle _ _ _).mono ?_
    rintro e u' w'' ⟨rfl, rfl, rfl⟩
    have hb1 := heap_setCell_at (i := 0) H.out.2.1 (.bool true)
    have hb2 : (w1.setCell ⟨w.heap.size, 0, none⟩ (.bool true)).heap[w.heap.size + 1]? = some (.cells #[.int .i64 0] 30 (0, 0)) := (heap_setCell_ne (by simp) _).trans H.out.2.2
    have hb3 := heap_setCell_at (i := 0) hb2 (.int .i64 0)
    have hb4 : ((w1.setCell ⟨w.heap.size, 0, none⟩ (.bool true)).setCell ⟨w.heap.size + 1, 0, none⟩ (.int .i64 0)).heap[w.heap.size]? = some (.cells #[.bool true] 4 (0, 0)) := (heap_setCell_ne (by simp) _).trans hb1
    have k1 := cell_of_block hb4 0
    have k2 := cell_of_block hb3 0
    simp at k1 k2
    refine ⟨.tuple #[.bool true, .int .i64 0], ?_, _, w1, H.out.1, rfl, ((Ext.refl _ w1).setCell (fun _ => .inl rfl) _).setCell (fun _ => .inr rfl) _⟩
    simp [results, Tryz.results84, go_sem, k1, k2]
  · go_wp2_with fail
    refine leaves_cons (f := 127) (args := #[.pointer (some ⟨w.heap.size, 0, none⟩), .pointer (some ⟨w.heap.size + 1, 0, none⟩)]) (by simp) (by simp [go_sem]) ?_
    refine (try1_stop _ _ x _ H.out.2.1 H.out.2.2 (by simp)).mono ?_
    rintro e u' w'' ⟨rfl, rfl, h1, h2, h3⟩
    have k1 := cell_of_block h1 0
    have k2 := cell_of_block h2 0
    simp at k1 k2
    refine ⟨.tuple #[.bool false, .int .i64 x], ?_, _, w1, H.out.1, rfl, h3⟩
    simp [results, Tryz.results84, go_sem, k1, k2]

end Go.Proofs.YtekolejeliefdaaGreat
