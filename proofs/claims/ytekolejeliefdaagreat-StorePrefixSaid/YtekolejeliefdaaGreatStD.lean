/- Readers: texts, the calls that may stop, pairs. -/
import Derived.Test.YtekolejeliefdaaGreatStC
import Derived.Defers
import Derived.Recover
set_option linter.unusedVariables false
set_option linter.unusedSimpArgs false
namespace Go.Proofs.YtekolejeliefdaaGreat
open Go.RowKit

section
variable {w : World}
theorem Rd.strD {v : Value} {n : Nat} {xs : List UInt8} (h : Rd w 5 1 v n (u8s xs)) : (Go.convert 114 9 v).run Tryz.prog w = .ok (.string ⟨xs.toArray⟩) w := by
  by_cases h0 : 0 < n
  · exact h.str' h0
  · obtain rfl : n = 0 := by omega
    have hl : xs.length = 0 := by have := h.1; simpa [u8s] using this
    obtain rfl := List.eq_nil_of_length_eq_zero hl
    obtain ⟨h1, h2, c, ⟨rfl, _⟩ | ⟨b, off, rfl, hc, _⟩⟩ := h
    · have hk : ∀ W : World, (Go.convert 114 9 (.slice none 0 0)).run Tryz.prog W = .ok (.string ⟨#[]⟩) W := fun _ => by kernel_rfl
      exact hk w
    · have := Lib.run_convert_whole (P := Tryz.prog) w 114 5 9 Tryz.underlying114 Tryz.underlying5 Tryz.underlying9 b off ⟨#[]⟩ (fun i hi => absurd hi (by simp [ByteArray.size])) c
      exact this
theorem Rd.cut_hu {e : TypeId} {k n : Nat} {cs : List Value} {v : Value} {t : TypeId} {P : Program} (h : Rd w e k v n cs) {et : TypeId} (ht : P.underlying t = some (.slice et)) (hz : ∀ w, (Go.sizeOf et).run P w = .ok k w) (m : Nat) (hm : m ≤ n) :
    ∃ u, (∀ W, (Instr.slice t v none (some (.int .u64 m)) none).run P W = .ok u W) ∧ Rd w e k u m (cs.take (m * k)) := by
  obtain ⟨a, c, rfl⟩ := h.form
  have := h.n_le_cap
  refine ⟨_, fun W => ?_, by simpa using (h.sliced 0 m (Nat.zero_le _) hm).1⟩
  obtain rfl : P.elem t = et := by simp [Program.elem, ht]
  rw [run_slice_h W t a n c ht .u64 m (by omega) (by omega), hz]
  rfl
theorem Rd.cut_lu {e : TypeId} {k n : Nat} {cs : List Value} {v : Value} {t : TypeId} {P : Program} (h : Rd w e k v n cs) {et : TypeId} (ht : P.underlying t = some (.slice et)) (hz : ∀ w, (Go.sizeOf et).run P w = .ok k w) (l : Nat) (hl : l ≤ n) :
    ∃ u, (∀ W, (Instr.slice t v (some (.int .u64 l)) none none).run P W = .ok u W) ∧ Rd w e k u (n - l) (cs.drop (l * k)) := by
  obtain ⟨a, c, rfl⟩ := h.form
  have h2 := (h.sliced l n hl (Nat.le_refl _)).1
  rw [List.take_of_length_le (by rw [List.length_drop, h.1]; rw [Nat.sub_mul]; omega)] at h2
  refine ⟨_, fun W => ?_, h2⟩
  obtain rfl : P.elem t = et := by simp [Program.elem, ht]
  rw [run_slice_l W t a n c ht .u64 l (by omega) (by omega), hz]
  rfl
end

/-- A text taken off what is left. -/
theorem RAt.stepT {w : World} {p : Nat} {x rest : List UInt8} (h : RAt w p (x ++ rest)) :
    ∃ a n c, w.cell? ⟨p, 0, none⟩ = some (.slice a n c) ∧ w.frozen? ⟨p, 0, none⟩ = false ∧ x.length ≤ n ∧ n ≤ 9223372036854775807 ∧
      ∃ ta tm tc, (∀ W, (Instr.slice 114 (.slice a n c) none (some (.int .u64 x.length)) none).run Tryz.prog W = .ok (.slice ta tm tc) W) ∧ (Go.convert 114 9 (.slice ta tm tc)).run Tryz.prog w = .ok (bstr x) w ∧
      ∃ ua m uc, (∀ W, (Instr.slice 114 (.slice a n c) (some (.int .u64 x.length)) none none).run Tryz.prog W = .ok (.slice ua m uc) W) ∧
        Hid (RAt (w.setCell ⟨p, 0, none⟩ (.slice ua m uc)) p rest ∧ Ext (· = p) w (w.setCell ⟨p, 0, none⟩ (.slice ua m uc))) := by
  obtain ⟨v, h1, h2⟩ := h.lay
  obtain ⟨a, c, rfl⟩ := h2.form
  have c0 := cell_of_block h1 0
  simp only [List.getElem?_toArray, List.getElem?_cons_zero] at c0
  have hln : (x ++ rest).length = x.length + rest.length := by simp
  have hm := h2.2.1
  simp only [maxLen] at hm
  obtain ⟨t, ht, htr⟩ := h2.cut_hu (P := Tryz.prog) Tryz.underlying114 Tryz.sizeOf5 x.length (by omega)
  obtain ⟨u, hu, hr⟩ := h2.cut_lu (P := Tryz.prog) Tryz.underlying114 Tryz.sizeOf5 x.length (by omega)
  obtain ⟨ta, tc, rfl⟩ := htr.form
  obtain ⟨ua, uc, rfl⟩ := hr.form
  have htr' : Rd w 5 1 (.slice ta x.length tc) x.length (u8s x) := by simpa [u8s] using htr
  have h3 : Rd w 5 1 (.slice ua ((x ++ rest).length - x.length) uc) rest.length (u8s rest) := by simpa [u8s] using hr
  refine ⟨a, _, c, c0, free_of_block h1 0, by omega, by omega, ta, _, tc, ht, htr'.strD, ua, _, uc, hu, ⟨⟨_, heap_setCell_at h1 _, ?_⟩⟩, Ext.setCell (S := (· = p)) (Ext.refl _ w) (fun _ => rfl) _⟩
  refine h3.kept fun b cur fr hb => ?_
  rw [heap_setCell_ne (by rintro rfl; simp [h1] at hb)]
  exact hb

set_option maxRecDepth 100000 in
set_option maxHeartbeats 1000000 in
theorem rtext_any {w : World} {p : Nat} {x rest : List UInt8} (h : RAt w p (textF x ++ rest)) (hx : x.length ≤ 1073741824) :
    Calls Tryz.prog 138 #[.pointer (some ⟨p, 0, none⟩)] w fun e w' => e = .returned (bstr x) ∧ RAt w' p rest ∧ Ext (· = p) w w' := by
  have HN : Hid (Calls Tryz.prog 157 #[.pointer (some ⟨p, 0, none⟩)] w fun e w' => e = .returned (.int .u64 x.length) ∧ RAt w' p (x ++ rest) ∧ Ext (· = p) w w') :=
    rnum_any (by simpa [textF] using h) (by omega)
  have HM := Lib.hid must_any
  clear h
  go_enter Tryz.func138, Tryz.ntmps138
  go_wp2_with fail
  refine HN.out.mono ?_
  rintro e w1 ⟨rfl, h1, hx1⟩
  obtain ⟨a, n, c, hcell, hfz, hxn, hn9, ta, tm, tc, ht, hcv, ua, m, uc, hu, HR⟩ := h1.stepT
  have HX := Lib.hid hx1
  clear h1 hx1 HN
  go_wp2_with (refine (HM.out _).mono ?_; rintro e w' ⟨rfl, rfl⟩)
  go_ret
  exact ⟨rfl, HR.out.1, HX.out.trans HR.out.2⟩


/-- The deferred closure of try behind a body that returned: it turns nothing. -/
theorem ctry1_idle (p q : Addr) (w : World) :
    CallsD Tryz.prog 155 #[.pointer (some p), .pointer (some q)] .returning w fun e u' w' => e = .returned (.tuple #[]) ∧ u' = .returning ∧ w = w' := by
  refine callsD_of_wpS Tryz.func155 rfl fun c₀ cs hu => ?_
  apply wpS_seq
  apply wpS_region
  simp [wpOpsS, go_sem, recoverD, hu, Tryz.ntmps155, Exit.thenS]
  apply wpS_seq
  apply wpS_region
  simp [wpOpsS, go_sem, Exit.thenS]
  refine wpS_cond (t := false) (by simp [Act.eval, Array.replicate]) ?_
  simp only [Bool.false_eq_true, if_false]
  refine wpS_of_wp (wp_skip ?_)
  cases c₀
  simp_all [bodyPostS, results, Tryz.results155, Exit.thenS]

set_option maxRecDepth 100000 in
set_option maxHeartbeats 1000000 in
/-- try of a reader that has not failed, of what does not stop. -/
theorem ctry_any {cl p : Nat} {cap : Array Value} {w : World} {Q : World → Prop} {v : Value} (hp : w.heap[p]? = some (.cells #[v, .bool false] 210 (0, 0)))
    (hcf : ∀ w, (callFunc cl cap).run Tryz.prog w = .ok (.enter cl cap) w)
    (hc : Calls Tryz.prog cl cap ((w.alloc (.cells #[.pointer (some ⟨p, 0, none⟩)] 169)).alloc (.cells #[.bool false] 4)) fun e w' => e = .returned (.tuple #[]) ∧ Q w' ∧ w'.heap[w.heap.size + 1]? = some (.cells #[.bool false] 4 (0, 0))) :
    Calls Tryz.prog 134 #[.pointer (some ⟨p, 0, none⟩), .func (.func cl) #[] cap] w fun e w' => ∃ w0, Q w0 ∧ e = .returned (.bool true) ∧ Ext (· = w.heap.size + 1) w0 w' := by
  have hmf : ∀ (fn : Fn) (first cap : Array Value) (w : World), (Instr.makeFunc fn first cap).run Tryz.prog w = .ok (.func fn first cap) w := fun _ _ _ _ => rfl
  have hcell : ((w.alloc (.cells #[.pointer (some ⟨p, 0, none⟩)] 169)).alloc (.cells #[.bool false] 4)).cell? ⟨p, 1, none⟩ = some (.bool false) := by
    have hl := lt_of_heap hp
    rw [cell_of_block ((heap_alloc_lt (by simp; omega)).trans ((heap_alloc_lt hl).trans hp))]
    rfl
  have HC := Lib.hid hc
  clear hc hp
  go_enter_defers Tryz.func134, Tryz.ntmps134
  go_wp2_with fail
  refine HC.out.mono ?_
  rintro e w1 ⟨rfl, hq, hb1⟩
  have c1 := cell_of_block hb1 0
  simp at c1
  have f1 := free_of_block hb1 0
  have H := Lib.hid (And.intro hq hb1)
  clear hq hb1
  go_wp2_with fail
  refine leaves_cons (f := 155) (args := #[.pointer (some ⟨w.heap.size, 0, none⟩), .pointer (some ⟨w.heap.size + 1, 0, none⟩)]) (by simp) (by simp [go_sem]) ?_
  refine (ctry1_idle _ _ _).mono ?_
  rintro e u' w'' ⟨rfl, rfl, rfl⟩
  have k1 := cell_of_block (heap_setCell_at (i := 0) H.out.2 (.bool true)) 0
  simp at k1
  refine ⟨.bool true, ?_, w1, H.out.1, rfl, Ext.setCell (S := (· = w.heap.size + 1)) (Ext.refl _ w1) (fun _ => rfl) _⟩
  simp [results, Tryz.results134, go_sem, k1]

/-- The closures that try calls. -/
theorem rbool1_any {a b p : Nat} {w : World} {x : Bool} {rest : List UInt8} {o : Value} (ha : w.heap[a]? = some (.cells #[.pointer (some ⟨p, 0, none⟩)] 169 (0, 0))) (hb : w.heap[b]? = some (.cells #[o] 4 (0, 0)))
    (h : RAt w p (boolF x ++ rest)) :
    Calls Tryz.prog 135 #[.pointer (some ⟨a, 0, none⟩), .pointer (some ⟨b, 0, none⟩)] w fun e w' => e = .returned (.tuple #[]) ∧ RAt w' p rest ∧ w'.heap[b]? = some (.cells #[.bool x] 4 (0, 0)) ∧ Ext (fun k => k = p ∨ k = b) w w' := by
  have ca := cell_of_block ha 0
  simp at ca
  have hpb : b ≠ p := by rintro rfl; obtain ⟨v, h1, _⟩ := h.lay; simp [h1] at hb
  have HB : Hid (Calls Tryz.prog 136 #[.pointer (some ⟨p, 0, none⟩)] w fun e w' => e = .returned (.bool x) ∧ (∃ u, w'.cell? ⟨b, 0, none⟩ = some u) ∧ w'.frozen? ⟨b, 0, none⟩ = false ∧
      Hid (RAt (w'.setCell ⟨b, 0, none⟩ (.bool x)) p rest ∧ (w'.setCell ⟨b, 0, none⟩ (.bool x)).heap[b]? = some (.cells #[.bool x] 4 (0, 0)) ∧ Ext (fun k => k = p ∨ k = b) w (w'.setCell ⟨b, 0, none⟩ (.bool x)))) := by
    refine (rbool_any h).mono ?_
    rintro e w' ⟨rfl, h1, h2⟩
    have hb' := (h2.block b (lt_of_heap hb) hpb).trans hb
    have h4 := heap_setCell_at (i := 0) hb' (.bool x)
    refine ⟨rfl, ⟨o, by rw [cell_of_block hb']; rfl⟩, free_of_block hb' 0, ?_, h4, (h2.mono fun _ _ q => .inl q).setCell (fun _ => .inr rfl) _⟩
    obtain ⟨v, q1, q2⟩ := h1.lay
    refine ⟨v, (heap_setCell_ne (Ne.symm hpb) _).trans q1, q2.kept fun b' cur fr hq => ?_⟩
    rw [heap_setCell_ne (by rintro rfl; simp [hb'] at hq)]
    exact hq
  clear ha hb h
  go_enter Tryz.func135, Tryz.ntmps135
  go_wp2_with (refine HB.out.mono ?_; rintro e w' ⟨rfl, ⟨u, hu⟩, hf, HR⟩)
  go_end0
  exact ⟨rfl, HR.out⟩
theorem rtext1_any {a b p : Nat} {w : World} {x rest : List UInt8} {o : Value} (ha : w.heap[a]? = some (.cells #[.pointer (some ⟨p, 0, none⟩)] 169 (0, 0))) (hb : w.heap[b]? = some (.cells #[o] 9 (0, 0)))
    (h : RAt w p (textF x ++ rest)) (hx : x.length ≤ 1073741824) :
    Calls Tryz.prog 137 #[.pointer (some ⟨a, 0, none⟩), .pointer (some ⟨b, 0, none⟩)] w fun e w' => e = .returned (.tuple #[]) ∧ RAt w' p rest ∧ w'.heap[b]? = some (.cells #[bstr x] 9 (0, 0)) ∧ Ext (fun k => k = p ∨ k = b) w w' := by
  have ca := cell_of_block ha 0
  simp at ca
  have hpb : b ≠ p := by rintro rfl; obtain ⟨v, h1, _⟩ := h.lay; simp [h1] at hb
  have HB : Hid (Calls Tryz.prog 138 #[.pointer (some ⟨p, 0, none⟩)] w fun e w' => e = .returned (bstr x) ∧ (∃ u, w'.cell? ⟨b, 0, none⟩ = some u) ∧ w'.frozen? ⟨b, 0, none⟩ = false ∧
      Hid (RAt (w'.setCell ⟨b, 0, none⟩ (bstr x)) p rest ∧ (w'.setCell ⟨b, 0, none⟩ (bstr x)).heap[b]? = some (.cells #[bstr x] 9 (0, 0)) ∧ Ext (fun k => k = p ∨ k = b) w (w'.setCell ⟨b, 0, none⟩ (bstr x)))) := by
    refine (rtext_any h hx).mono ?_
    rintro e w' ⟨rfl, h1, h2⟩
    have hb' := (h2.block b (lt_of_heap hb) hpb).trans hb
    have h4 := heap_setCell_at (i := 0) hb' (bstr x)
    refine ⟨rfl, ⟨o, by rw [cell_of_block hb']; rfl⟩, free_of_block hb' 0, ?_, h4, (h2.mono fun _ _ q => .inl q).setCell (fun _ => .inr rfl) _⟩
    obtain ⟨v, q1, q2⟩ := h1.lay
    refine ⟨v, (heap_setCell_ne (Ne.symm hpb) _).trans q1, q2.kept fun b' cur fr hq => ?_⟩
    rw [heap_setCell_ne (by rintro rfl; simp [hb'] at hq)]
    exact hq
  clear ha hb h
  go_enter Tryz.func137, Tryz.ntmps137
  go_wp2_with (refine HB.out.mono ?_; rintro e w' ⟨rfl, ⟨u, hu⟩, hf, HR⟩)
  go_end0
  exact ⟨rfl, HR.out⟩


set_option maxRecDepth 100000 in
set_option maxHeartbeats 1000000 in
theorem rBool_any {w : World} {p : Nat} {x : Bool} {rest : List UInt8} (h : RAt w p (boolF x ++ rest)) :
    Calls Tryz.prog 89 #[.pointer (some ⟨p, 0, none⟩)] w fun e w' => e = .returned (.bool x) ∧ RAt w' p rest ∧ Ext (· = p) w w' := by
  have hmf : ∀ (fn : Fn) (first cap : Array Value) (w : World), (Instr.makeFunc fn first cap).run Tryz.prog w = .ok (.func fn first cap) w := fun _ _ _ _ => rfl
  have hcf : ∀ (cap : Array Value) (w : World), (callFunc 135 cap).run Tryz.prog w = .ok (.enter 135 cap) w := fun _ _ => by kernel_rfl
  obtain ⟨W2, hW2⟩ : ∃ W2, W2 = (w.alloc (.cells #[.pointer (some ⟨p, 0, none⟩)] 169)).alloc (.cells #[.bool false] 4) := ⟨_, rfl⟩
  have hs : W2.heap.size = w.heap.size + 2 := by rw [hW2]; simp
  have hx0 : Ext (fun _ => False) w W2 := by rw [hW2]; exact ((Ext.refl _ w).alloc _).alloc _
  have hb0 : W2.heap[w.heap.size]? = some (.cells #[.pointer (some ⟨p, 0, none⟩)] 169 (0, 0)) := by
    rw [hW2]; exact (heap_alloc_lt (by simp)).trans (heap_alloc_new w _)
  have hb1 : W2.heap[w.heap.size + 1]? = some (.cells #[.bool false] 4 (0, 0)) := by
    rw [hW2]
    have := heap_alloc_new (w.alloc (.cells #[.pointer (some ⟨p, 0, none⟩)] 169)) (.cells #[.bool false] 4)
    simpa using this
  have h2 := h.keep hx0
  obtain ⟨v, hpv, _⟩ := h2.lay
  have HT : Hid (Calls Tryz.prog 134 #[.pointer (some ⟨p, 0, none⟩), .func (.func 135) #[] #[.pointer (some ⟨w.heap.size, 0, none⟩), .pointer (some ⟨w.heap.size + 1, 0, none⟩)]] W2 fun e w' =>
      e = .returned (.bool true) ∧ w'.cell? ⟨w.heap.size + 1, 0, none⟩ = some (.bool x) ∧ Hid (RAt w' p rest ∧ Ext (· = p) w w')) := by
    obtain ⟨W4, hW4⟩ : ∃ W4, W4 = (W2.alloc (.cells #[.pointer (some ⟨p, 0, none⟩)] 169)).alloc (.cells #[.bool false] 4) := ⟨_, rfl⟩
    have hx4 : Ext (fun _ => False) W2 W4 := by rw [hW4]; exact ((Ext.refl _ W2).alloc _).alloc _
    have hb3 : W4.heap[W2.heap.size + 1]? = some (.cells #[.bool false] 4 (0, 0)) := by
      rw [hW4]
      have := heap_alloc_new (W2.alloc (.cells #[.pointer (some ⟨p, 0, none⟩)] 169)) (.cells #[.bool false] 4)
      simpa using this
    have hpl := lt_of_heap hpv
    have hpw : p < w.heap.size := by obtain ⟨v, q, _⟩ := h.lay; exact lt_of_heap q
    refine (ctry_any (Q := fun w' => RAt w' p rest ∧ w'.heap[w.heap.size + 1]? = some (.cells #[.bool x] 4 (0, 0)) ∧ Ext (fun k => k = p ∨ k = w.heap.size + 1) W4 w') hpv (hcf _) ?_).mono ?_
    · rw [← hW4]
      refine (rbool1_any (o := .bool false) ((hx4.block _ (by omega) id).trans hb0) ((hx4.block _ (by omega) id).trans hb1) (h2.keep hx4)).mono ?_
      rintro e w' ⟨rfl, q1, q2, q3⟩
      exact ⟨rfl, ⟨q1, q2, q3⟩, (q3.block _ (lt_of_heap hb3) (by omega)).trans hb3⟩
    · rintro e w' ⟨w0, ⟨q1, q2, q3⟩, rfl, q4⟩
      have q2' := (q4.block _ (lt_of_heap q2) (by omega)).trans q2
      have e2 : Ext (fun k => k = p ∨ k = w.heap.size + 1) W2 w0 := (hx4.mono fun _ _ q => q.elim).trans q3
      have e3 : Ext (· = p) W2 w' → Ext (· = p) w w' := fun q => (hx0.mono fun _ _ q => q.elim).trans q
      refine ⟨rfl, by rw [cell_of_block q2']; rfl, ?_, ?_⟩
      · obtain ⟨u, r1, r2⟩ := q1.lay
        refine ⟨u, (q4.block _ (lt_of_heap r1) (by rw [hs]; omega)).trans r1, r2.kept fun b cur fr hq => ?_⟩
        by_cases hbb : b = W2.heap.size + 1
        · subst hbb
          have := (q3.block _ (lt_of_heap hb3) (by omega)).trans hb3
          simp [this] at hq
        · exact (q4.block _ (lt_of_heap hq) hbb).trans hq
      · have q5 : Ext (fun k => k = p ∨ k = w.heap.size + 1 ∨ k = W2.heap.size + 1) W2 w' := (e2.mono fun _ _ q => by omega).trans (q4.mono fun _ _ q => .inr (.inr q))
        have q6 : Ext (fun k => k = p ∨ k = w.heap.size + 1 ∨ k = W2.heap.size + 1) w w' := (hx0.mono fun _ _ q => q.elim).trans q5
        exact q6.mono fun k hk q => by omega
  have HW := Lib.hid hW2
  have c0 := cell_of_block hb0 0
  simp at c0
  rw [hW2] at c0
  clear h h2 hpv hb0 hb1 hx0 hs
  go_enter Tryz.func89, Tryz.ntmps89
  go_wp2_with fail
  rw [← HW.out]
  refine HT.out.mono ?_
  rintro e w' ⟨rfl, hc, HR⟩
  go_wp2_with fail
  go_ret
  exact ⟨rfl, HR.out⟩

set_option maxRecDepth 100000 in
set_option maxHeartbeats 1000000 in
theorem rText_any {w : World} {p : Nat} {x : List UInt8} {rest : List UInt8} (h : RAt w p (textF x ++ rest)) (hxl : x.length ≤ 1073741824) :
    Calls Tryz.prog 90 #[.pointer (some ⟨p, 0, none⟩)] w fun e w' => e = .returned (bstr x) ∧ RAt w' p rest ∧ Ext (· = p) w w' := by
  have hmf : ∀ (fn : Fn) (first cap : Array Value) (w : World), (Instr.makeFunc fn first cap).run Tryz.prog w = .ok (.func fn first cap) w := fun _ _ _ _ => rfl
  have hcf : ∀ (cap : Array Value) (w : World), (callFunc 137 cap).run Tryz.prog w = .ok (.enter 137 cap) w := fun _ _ => by kernel_rfl
  obtain ⟨W2, hW2⟩ : ∃ W2, W2 = (w.alloc (.cells #[.pointer (some ⟨p, 0, none⟩)] 169)).alloc (.cells #[.string ⟨#[]⟩] 9) := ⟨_, rfl⟩
  have hs : W2.heap.size = w.heap.size + 2 := by rw [hW2]; simp
  have hx0 : Ext (fun _ => False) w W2 := by rw [hW2]; exact ((Ext.refl _ w).alloc _).alloc _
  have hb0 : W2.heap[w.heap.size]? = some (.cells #[.pointer (some ⟨p, 0, none⟩)] 169 (0, 0)) := by
    rw [hW2]; exact (heap_alloc_lt (by simp)).trans (heap_alloc_new w _)
  have hb1 : W2.heap[w.heap.size + 1]? = some (.cells #[.string ⟨#[]⟩] 9 (0, 0)) := by
    rw [hW2]
    have := heap_alloc_new (w.alloc (.cells #[.pointer (some ⟨p, 0, none⟩)] 169)) (.cells #[.string ⟨#[]⟩] 9)
    simpa using this
  have h2 := h.keep hx0
  obtain ⟨v, hpv, _⟩ := h2.lay
  have HT : Hid (Calls Tryz.prog 134 #[.pointer (some ⟨p, 0, none⟩), .func (.func 137) #[] #[.pointer (some ⟨w.heap.size, 0, none⟩), .pointer (some ⟨w.heap.size + 1, 0, none⟩)]] W2 fun e w' =>
      e = .returned (.bool true) ∧ w'.cell? ⟨w.heap.size + 1, 0, none⟩ = some (bstr x) ∧ Hid (RAt w' p rest ∧ Ext (· = p) w w')) := by
    obtain ⟨W4, hW4⟩ : ∃ W4, W4 = (W2.alloc (.cells #[.pointer (some ⟨p, 0, none⟩)] 169)).alloc (.cells #[.bool false] 4) := ⟨_, rfl⟩
    have hx4 : Ext (fun _ => False) W2 W4 := by rw [hW4]; exact ((Ext.refl _ W2).alloc _).alloc _
    have hb3 : W4.heap[W2.heap.size + 1]? = some (.cells #[.bool false] 4 (0, 0)) := by
      rw [hW4]
      have := heap_alloc_new (W2.alloc (.cells #[.pointer (some ⟨p, 0, none⟩)] 169)) (.cells #[.bool false] 4)
      simpa using this
    have hpl := lt_of_heap hpv
    have hpw : p < w.heap.size := by obtain ⟨v, q, _⟩ := h.lay; exact lt_of_heap q
    refine (ctry_any (Q := fun w' => RAt w' p rest ∧ w'.heap[w.heap.size + 1]? = some (.cells #[bstr x] 9 (0, 0)) ∧ Ext (fun k => k = p ∨ k = w.heap.size + 1) W4 w') hpv (hcf _) ?_).mono ?_
    · rw [← hW4]
      refine (rtext1_any (o := .string ⟨#[]⟩) ((hx4.block _ (by omega) id).trans hb0) ((hx4.block _ (by omega) id).trans hb1) (h2.keep hx4) hxl).mono ?_
      rintro e w' ⟨rfl, q1, q2, q3⟩
      exact ⟨rfl, ⟨q1, q2, q3⟩, (q3.block _ (lt_of_heap hb3) (by omega)).trans hb3⟩
    · rintro e w' ⟨w0, ⟨q1, q2, q3⟩, rfl, q4⟩
      have q2' := (q4.block _ (lt_of_heap q2) (by omega)).trans q2
      have e2 : Ext (fun k => k = p ∨ k = w.heap.size + 1) W2 w0 := (hx4.mono fun _ _ q => q.elim).trans q3
      have e3 : Ext (· = p) W2 w' → Ext (· = p) w w' := fun q => (hx0.mono fun _ _ q => q.elim).trans q
      refine ⟨rfl, by rw [cell_of_block q2']; rfl, ?_, ?_⟩
      · obtain ⟨u, r1, r2⟩ := q1.lay
        refine ⟨u, (q4.block _ (lt_of_heap r1) (by rw [hs]; omega)).trans r1, r2.kept fun b cur fr hq => ?_⟩
        by_cases hbb : b = W2.heap.size + 1
        · subst hbb
          have := (q3.block _ (lt_of_heap hb3) (by omega)).trans hb3
          simp [this] at hq
        · exact (q4.block _ (lt_of_heap hq) hbb).trans hq
      · have q5 : Ext (fun k => k = p ∨ k = w.heap.size + 1 ∨ k = W2.heap.size + 1) W2 w' := (e2.mono fun _ _ q => by omega).trans (q4.mono fun _ _ q => .inr (.inr q))
        have q6 : Ext (fun k => k = p ∨ k = w.heap.size + 1 ∨ k = W2.heap.size + 1) w w' := (hx0.mono fun _ _ q => q.elim).trans q5
        exact q6.mono fun k hk q => by omega
  have HW := Lib.hid hW2
  have c0 := cell_of_block hb0 0
  simp at c0
  rw [hW2] at c0
  clear h h2 hpv hb0 hb1 hx0 hs
  go_enter Tryz.func90, Tryz.ntmps90
  go_wp2_with fail
  rw [← HW.out]
  refine HT.out.mono ?_
  rintro e w' ⟨rfl, hc, HR⟩
  go_wp2_with fail
  go_ret
  exact ⟨rfl, HR.out⟩

end Go.Proofs.YtekolejeliefdaaGreat
