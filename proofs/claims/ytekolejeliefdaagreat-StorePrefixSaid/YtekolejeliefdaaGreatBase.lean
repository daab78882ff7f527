/- Words of this seat's proofs: what a world keeps, slices that are read, maps as lists of entries. No program in sight. -/
import Derived.WalkKit
import Derived.Maps.OwnSet
import Derived.Maps.AppendAt
import Derived.Lib.Hide
import Derived.Deep.Draws
import Derived.Deep.AppendLies
import Derived.Deep.OwnRows
import Derived.Laws.AppendOwnNone
set_option linter.unusedVariables false
set_option linter.unusedSimpArgs false
namespace Go.Proofs.YtekolejeliefdaaGreat
open Go.RowKit

/-- Off the blocks of S what lay in w lies in w' as it lay; new blocks may have come. -/
structure Ext (S : Nat → Prop) (w w' : World) : Prop where
  os : w'.os = w.os
  tape : w'.tape = w.tape
  output : w'.output = w.output
  size : w.heap.size ≤ w'.heap.size
  block : ∀ k, k < w.heap.size → ¬ S k → w'.heap[k]? = w.heap[k]?

section
variable {S S' : Nat → Prop} {w w1 w2 : World}
theorem Ext.refl (S : Nat → Prop) (w : World) : Ext S w w := ⟨rfl, rfl, rfl, Nat.le_refl _, fun _ _ _ => rfl⟩
theorem Ext.trans (h : Ext S w w1) (k : Ext S w1 w2) : Ext S w w2 :=
  ⟨k.os.trans h.os, k.tape.trans h.tape, k.output.trans h.output, Nat.le_trans h.size k.size, fun i hi hs => (k.block i (Nat.lt_of_lt_of_le hi h.size) hs).trans (h.block i hi hs)⟩
theorem Ext.mono (h : Ext S w w1) (hs : ∀ k, k < w.heap.size → S k → S' k) : Ext S' w w1 := ⟨h.os, h.tape, h.output, h.size, fun k hk hn => h.block k hk (fun q => hn (hs k hk q))⟩
theorem Ext.of_below {B : Nat} (h : Below B w w1) (hB : w.heap.size ≤ B) : Ext S w w1 := ⟨h.os, h.tape, h.output, h.size, fun k hk _ => h.block k (Nat.lt_of_lt_of_le hk hB)⟩
theorem Ext.below {B : Nat} (h : Ext S w w1) (hs : ∀ k, k < B → S k → False) (hB : B ≤ w.heap.size) : Below B w w1 := ⟨h.os, h.tape, h.output, h.size, fun k hk => h.block k (Nat.lt_of_lt_of_le hk hB) (fun q => hs k hk q)⟩
theorem Ext.of_grown {row : Option Nat} (h : w.grownBy w1 row) (hs : ∀ k, row = some k → S k) : Ext S w w1 := ⟨h.os, h.tape, h.output, h.size, fun k hk hn => h.block k hk (fun e => hn (hs k e.symm))⟩
theorem Ext.alloc (h : Ext S w w1) (o : Obj) : Ext S w (w1.alloc o) := h.trans ⟨rfl, rfl, rfl, by simp, fun k hk _ => Below.heap_alloc _ _ _ hk⟩
theorem Ext.drew (h : Ext S w w1) : Ext S w w1.drew := ⟨h.os, h.tape, h.output, h.size, h.block⟩
theorem Ext.drewN (h : Ext S w w1) (n : Nat) : Ext S w (w1.drewN n) := ⟨h.os, h.tape, h.output, h.size, h.block⟩
theorem Ext.setCell (h : Ext S w w1) {p : Addr} (hp : p.block < w.heap.size → S p.block) (u : Value) : Ext S w (w1.setCell p u) :=
  ⟨h.os, h.tape, h.output, by simpa [World.setCell] using h.size, fun k hk hn => by
    rw [Below.heap_setCell _ _ _ _ (fun e => by subst e; exact hn (hp hk))]
    exact h.block k hk hn⟩
/-- One step behind another, the second's own writes being new to the first. -/
theorem Ext.andThen (h : Ext S w w1) (k : Ext S' w1 w2) (hs : ∀ i, i < w.heap.size → S' i → S i) : Ext S w w2 :=
  ⟨k.os.trans h.os, k.tape.trans h.tape, k.output.trans h.output, Nat.le_trans h.size k.size, fun i hi hn => (k.block i (Nat.lt_of_lt_of_le hi h.size) (fun q => hn (hs i hi q))).trans (h.block i hi hn)⟩
end

theorem heap_setCell_at {w : World} {p i : Nat} {cs : Array Value} {e : TypeId} {fr : Nat × Nat} (h : w.heap[p]? = some (.cells cs e fr)) (v : Value) :
    (w.setCell ⟨p, i, none⟩ v).heap[p]? = some (.cells (cs.setIfInBounds i v) e fr) := by
  simp [World.setCell, Array.getElem?_modify, h]
theorem heap_setCell_ne {w : World} {a : Addr} {k : Nat} (h : k ≠ a.block) (v : Value) : (w.setCell a v).heap[k]? = w.heap[k]? := Below.heap_setCell _ _ _ _ h
theorem heap_alloc_lt {w : World} {o : Obj} {k : Nat} (h : k < w.heap.size) : (w.alloc o).heap[k]? = w.heap[k]? := Below.heap_alloc _ _ _ h
theorem lt_of_heap {w : World} {k : Nat} {o : Obj} (h : w.heap[k]? = some o) : k < w.heap.size := (Array.getElem?_eq_some_iff.1 h).1
theorem cell_of_block {w : World} {p : Nat} {cs : Array Value} {e : TypeId} {fr : Nat × Nat} (h : w.heap[p]? = some (.cells cs e fr)) (i : Nat) : w.cell? ⟨p, i, none⟩ = cs[i]? := by simp [World.cell?, h]
theorem free_of_block {w : World} {p : Nat} {cs : Array Value} {e : TypeId} (h : w.heap[p]? = some (.cells cs e (0, 0))) (i : Nat) : w.frozen? ⟨p, i, none⟩ = false := by simp [World.frozen?, h]

/-- A slice whose elements' cells are read: n * k of them, in a block of element type e. -/
def Rd (w : World) (e : TypeId) (k : Nat) (v : Value) (n : Nat) (cs : List Value) : Prop :=
  cs.length = n * k ∧ n ≤ maxLen ∧ ∃ c, (v = .slice none 0 0 ∧ n = 0) ∨ ∃ b off, v = .slice (some ⟨b, off, none⟩) n c ∧ n ≤ c ∧ (n = 0 ∨ ∃ cur fr, w.heap[b]? = some (.cells cur e fr) ∧ (cur.toList.drop off).take (n * k) = cs)

section
variable {w w1 : World} {e : TypeId} {k n : Nat} {v : Value} {cs : List Value}
theorem Rd.of_own {base : Nat} (h : w.ownsRow base e k v n cs) : Rd w e k v n cs := by
  obtain ⟨hl, h | ⟨g, cap, cur, rfl, _, hh, h1, h2, h3, h4⟩⟩ := h
  · obtain ⟨rfl, rfl⟩ := h
    exact ⟨hl, Nat.zero_le _, 0, .inl ⟨rfl, rfl⟩⟩
  · exact ⟨hl, Nat.le_trans h1 h2, _, .inr ⟨g, 0, rfl, h1, .inr ⟨cur, (0, 0), hh, by simpa using h4⟩⟩⟩
theorem Rd.kept (h : Rd w e k v n cs) (hk : ∀ (b : Nat) (cur : Array Value) (fr : Nat × Nat), w.heap[b]? = some (Obj.cells cur e fr) → w1.heap[b]? = some (Obj.cells cur e fr)) : Rd w1 e k v n cs := by
  obtain ⟨h1, h2, c, h3⟩ := h
  refine ⟨h1, h2, c, ?_⟩
  rcases h3 with h3 | ⟨b, off, rfl, hc, h3 | ⟨cur, fr, hb, ht⟩⟩
  · exact .inl h3
  · exact .inr ⟨b, off, rfl, hc, .inl h3⟩
  · exact .inr ⟨b, off, rfl, hc, .inr ⟨cur, fr, hk _ _ _ hb, ht⟩⟩
theorem Rd.cell (h : Rd w e k v n cs) (hn : 0 < n) : ∃ b off c, v = .slice (some ⟨b, off, none⟩) n c ∧ b < w.heap.size ∧ ∀ j, j < n * k → w.cell? ⟨b, off + j, none⟩ = cs[j]? := by
  obtain ⟨h1, h2, c, h3⟩ := h
  rcases h3 with h3 | ⟨b, off, rfl, hc, h3 | ⟨cur, fr, hb, ht⟩⟩
  · omega
  · omega
  · refine ⟨b, off, c, rfl, lt_of_heap hb, fun j hj => ?_⟩
    rw [cell_of_block hb, ← ht, List.getElem?_take_of_lt hj, List.getElem?_drop, Array.getElem?_toList]
theorem Rd.form (h : Rd w e k v n cs) : ∃ a c, v = .slice a n c := by
  obtain ⟨h1, h2, c, h3 | ⟨b, off, rfl, _⟩⟩ := h
  · exact ⟨none, 0, by rw [h3.1, h3.2]⟩
  · exact ⟨_, c, rfl⟩
end

theorem own_keep {w w1 : World} {B : Nat} {e : TypeId} {k n : Nat} {v : Value} {cs : List Value} (h : w.ownsRow B e k v n cs)
    (hk : ∀ (b : Nat) (cur : Array Value) (fr : Nat × Nat), w.heap[b]? = some (Obj.cells cur e fr) → w1.heap[b]? = some (Obj.cells cur e fr)) : w1.ownsRow B e k v n cs := by
  refine ⟨h.1, ?_⟩
  rcases h.2 with h2 | ⟨g, cap, cur, hv, hb, hh, r⟩
  · exact .inl h2
  · exact .inr ⟨g, cap, cur, hv, hb, hk _ _ _ hh, r⟩

section
variable {P : Program} {w : World}
theorem Rd.news {e : TypeId} {k n : Nat} {cs : List Value} {b off c : Nat} (h : Rd w e k (.slice (some ⟨b, off, none⟩) n c) n cs) : ∀ j u, cs[j]? = some u → w.cell? ((⟨b, off, none⟩ : Addr).add j) = some u := by
  intro j u hj
  obtain ⟨h1, h2, c', ⟨e1, _⟩ | ⟨b', off', e1, _, h3⟩⟩ := h
  · simp at e1
  · simp only [Value.slice.injEq, Option.some.injEq, Addr.mk.injEq, and_true, true_and] at e1
    obtain ⟨⟨rfl, rfl⟩, rfl⟩ := e1
    have hjn : j < n * k := by rw [← h1]; exact (List.getElem?_eq_some_iff.1 hj).1
    have ha : (⟨b, off, none⟩ : Addr).add j = ⟨b, off + j, none⟩ := by unfold Addr.add; split <;> simp_all
    rw [ha]
    rcases h3 with rfl | ⟨cur, fr, hb, ht⟩
    · omega
    · rw [cell_of_block hb, ← hj, ← ht, List.getElem?_take_of_lt hjn, List.getElem?_drop, Array.getElem?_toList]

/-- What a slice expression leaves reads as that part. -/
theorem Rd.sliced {e : TypeId} {k n : Nat} {cs : List Value} {a : Option Addr} {c : Nat} (h : Rd w e k (.slice a n c) n cs) (l m : Nat) (hl : l ≤ m) (hm : m ≤ n) :
    Rd w e k (Go.sliced a l m c k) (m - l) ((cs.drop (l * k)).take ((m - l) * k)) ∧ (Go.sliced a l m c k).oneCell' = true := by
  refine ⟨?_, rfl⟩
  obtain ⟨h1, h2, c', h3⟩ := h
  have hml : (m - l) * k + l * k = m * k := by rw [← Nat.add_mul]; congr 1; omega
  have hmn : m * k ≤ n * k := Nat.mul_le_mul_right _ hm
  refine ⟨by rw [List.length_take, List.length_drop, h1]; omega, by omega, c - l, ?_⟩
  rcases h3 with ⟨e1, rfl⟩ | ⟨b, off, e1, hc, h3⟩
  · simp only [Value.slice.injEq] at e1
    obtain ⟨rfl, _, rfl⟩ := e1
    obtain rfl : m = 0 := by omega
    obtain rfl : l = 0 := by omega
    exact .inl ⟨rfl, rfl⟩
  · simp only [Value.slice.injEq, true_and] at e1
    obtain ⟨rfl, rfl⟩ := e1
    by_cases hcl : c = l
    · subst hcl
      obtain rfl : m = c := by omega
      exact .inr ⟨b, off, by simp [Go.sliced], by omega, .inl (by omega)⟩
    · refine .inr ⟨b, off + l * k, ?_, by omega, ?_⟩
      · simp only [Go.sliced, hcl, if_false, Option.map_some, Value.slice.injEq, Option.some.injEq, and_true]
        unfold Addr.add
        split <;> simp_all
      · rcases h3 with h3 | ⟨cur, fr, hb, ht⟩
        · exact .inl (by omega)
        · refine .inr ⟨cur, fr, hb, ?_⟩
          rw [← ht, List.drop_take, List.take_take, List.drop_drop]
          congr 1
          omega
section
variable {e : TypeId} {k n : Nat} {cs : List Value} {v : Value} {t : TypeId}
theorem Rd.n_le_cap {a : Option Addr} {c : Nat} (h : Rd w e k (.slice a n c) n cs) : n ≤ c := by
  obtain ⟨h1, h2, c', ⟨e1, rfl⟩ | ⟨b, off, e1, hc, _⟩⟩ := h
  · exact Nat.zero_le _
  · simp only [Value.slice.injEq, true_and] at e1
    omega
theorem Rd.cut_lh (h : Rd w e k v n cs) {et : TypeId} (ht : P.underlying t = some (.slice et)) (hz : ∀ w, (Go.sizeOf et).run P w = .ok k w) (l m : Nat) (hl : l ≤ m) (hm : m ≤ n) :
    ∃ u, (∀ W, (Instr.slice t v (some (.int .i64 l)) (some (.int .i64 m)) none).run P W = .ok u W) ∧ Rd w e k u (m - l) ((cs.drop (l * k)).take ((m - l) * k)) ∧ u.oneCell' = true := by
  obtain ⟨a, c, rfl⟩ := h.form
  have := h.n_le_cap
  refine ⟨_, fun W => ?_, h.sliced l m hl hm⟩
  obtain rfl : P.elem t = et := by simp [Program.elem, ht]
  rw [run_slice_lh W t a n c ht .i64 .i64 l m (by omega) (by omega) (by omega), hz]
  rfl
theorem Rd.cut_h (h : Rd w e k v n cs) {et : TypeId} (ht : P.underlying t = some (.slice et)) (hz : ∀ w, (Go.sizeOf et).run P w = .ok k w) (m : Nat) (hm : m ≤ n) :
    ∃ u, (∀ W, (Instr.slice t v none (some (.int .i64 m)) none).run P W = .ok u W) ∧ Rd w e k u m (cs.take (m * k)) ∧ u.oneCell' = true := by
  obtain ⟨a, c, rfl⟩ := h.form
  have := h.n_le_cap
  refine ⟨_, fun W => ?_, by simpa using h.sliced 0 m (Nat.zero_le _) hm⟩
  obtain rfl : P.elem t = et := by simp [Program.elem, ht]
  rw [run_slice_h W t a n c ht .i64 m (by omega) (by omega), hz]
  rfl
theorem Rd.cut_l (h : Rd w e k v n cs) {et : TypeId} (ht : P.underlying t = some (.slice et)) (hz : ∀ w, (Go.sizeOf et).run P w = .ok k w) (l : Nat) (hl : l ≤ n) :
    ∃ u, (∀ W, (Instr.slice t v (some (.int .i64 l)) none none).run P W = .ok u W) ∧ Rd w e k u (n - l) (cs.drop (l * k)) ∧ u.oneCell' = true := by
  obtain ⟨a, c, rfl⟩ := h.form
  have h2 := h.sliced l n hl (Nat.le_refl _)
  rw [List.take_of_length_le (by rw [List.length_drop, h.1]; rw [Nat.sub_mul]; omega)] at h2
  refine ⟨_, fun W => ?_, h2⟩
  obtain rfl : P.elem t = et := by simp [Program.elem, ht]
  rw [run_slice_l W t a n c ht .i64 l (by omega) (by omega), hz]
  rfl
end

/-- append(own, src...) from whatever is read. -/
theorem wp_app {o : Oper} {a : Act} {K : Act → World → Prop} {Q : Exit → Act → World → Prop} (s x : Operand) (t : TypeId)
    (ho : o.op = .call { callee := .builtin .append, args := #[s, x], argTypes := #[t, t] })
    (base : Nat) (e : TypeId) (k bytes : Nat) (z : Value) (ht : P.underlying t = some (.slice e)) (hinfo : (P.info? e).map (fun i => (i.zero, i.size, i.bytes)) = some (some z, k, bytes)) (hzk : z.cells.size = k) (hk : 0 < k)
    (v : Value) (n : Nat) (xs : List Value) (hs : a.eval s = v) (hown : w.ownsRow base e k v n xs)
    (sv : Value) (m : Nat) (news : List Value) (e' : TypeId) (hx : a.eval x = sv) (hr : Rd w e' k sv m news) (h1 : ∀ u ∈ news, u.oneCell' = true)
    (h63 : n + m ≤ maxLen) (hbytes : (n + m) * bytes ≤ 140737488355328) (hbase : base ≤ w.heap.size)
    (h : ∀ v' w', w'.ownsRow base e k v' (n + m) (xs ++ news) → w.grownBy w' v.ownBlock → (v'.ownBlock = v.ownBlock ∨ v'.ownBlock = some w.heap.size) → K (a.put o.dst v') w') : o.wp P a w K Q := by
  obtain ⟨i0, hi, hzz⟩ := Option.map_eq_some_iff.1 hinfo
  simp only [Prod.mk.injEq] at hzz
  obtain ⟨hz0, hz1, hz2⟩ := hzz
  have hr0 := hr
  obtain ⟨hl, hm, c, ⟨rfl, rfl⟩ | ⟨b, off, rfl, _, _⟩⟩ := hr
  · obtain rfl : news = [] := List.eq_nil_of_length_eq_zero (by simpa using hl)
    have hrun := run_append_owned_none (P := P) (w := w) base t o.type e i0 k ht hi v n xs hown
    unfold Oper.wp
    simp [execOp, ho, resolve, invoke, builtin, hs, hx, hrun, Result.andThen]
    exact h _ _ (by simpa using hown) (World.grownBy.refl _ _) (.inl rfl)
  · obtain ⟨v', w', hrun, h2, h3, h4, h5⟩ := run_append_own_at (P := P) (w := w) base t o.type e i0 z k bytes ht hi hz0 hz1 hz2 hzk hk v n xs hown ⟨b, off, none⟩ m c news hl hr0.news h1 h63 hbytes hbase
    unfold Oper.wp execOp
    simp only [ho, resolve, invoke, builtin, Sem.run_bind, Sem.run_pure, Result.andThen_ok, List.map_toArray, List.map_cons, List.map_nil, hs, hx, hrun]
    exact h _ _ h2 h3 h5

theorem wpList_app {ops : Array Oper} {rest : List Oper} {o : Oper} {a : Act} {Q : Exit → Act → World → Prop} (hgd : o.guard = none) (s x : Operand) (t : TypeId)
    (ho : o.op = .call { callee := .builtin .append, args := #[s, x], argTypes := #[t, t] })
    (base : Nat) (e : TypeId) (k bytes : Nat) (z : Value) (ht : P.underlying t = some (.slice e)) (hinfo : (P.info? e).map (fun i => (i.zero, i.size, i.bytes)) = some (some z, k, bytes)) (hzk : z.cells.size = k) (hk : 0 < k)
    (v : Value) (n : Nat) (xs : List Value) (hs : a.eval s = v) (hown : w.ownsRow base e k v n xs)
    (sv : Value) (m : Nat) (news : List Value) (e' : TypeId) (hx : a.eval x = sv) (hr : Rd w e' k sv m news) (h1 : ∀ u ∈ news, u.oneCell' = true)
    (h63 : n + m ≤ maxLen) (hbytes : (n + m) * bytes ≤ 140737488355328) (hbase : base ≤ w.heap.size)
    (h : ∀ v' w', w'.ownsRow base e k v' (n + m) (xs ++ news) → w.grownBy w' v.ownBlock → (v'.ownBlock = v.ownBlock ∨ v'.ownBlock = some w.heap.size) → wpList P ops Q rest (a.put o.dst v') w') : wpList P ops Q (o :: rest) a w :=
  wpList_plain hgd fun K hK => wp_app s x t ho base e k bytes z ht hinfo hzk hk v n xs hs hown sv m news e' hx hr h1 h63 hbytes hbase fun v' w' q1 q2 q3 => hK _ _ (h v' w' q1 q2 q3)
end

theorem own_mono {w : World} {B B' : Nat} {e : TypeId} {k n : Nat} {v : Value} {cs : List Value} (h : w.ownsRow B e k v n cs) (hb : B' ≤ B) : w.ownsRow B' e k v n cs := by
  refine ⟨h.1, ?_⟩
  rcases h.2 with h2 | ⟨g, cap, cur, hv, hg, r⟩
  · exact .inl h2
  · exact .inr ⟨g, cap, cur, hv, by omega, r⟩
theorem madeCells_one (z : Value) (m : Nat) : (madeCells #[z] m).toList = List.replicate m z := by
  apply List.ext_getElem
  · simp [madeCells]
  · intro i h1 h2
    simp [madeCells, Nat.mod_one]
theorem made_at (z : Value) (m i : Nat) (h : i < m) : (madeCells #[z] m)[i]? = some z := by
  rw [← Array.getElem?_toList, madeCells_one, List.getElem?_replicate, if_pos h]
theorem made_own (W : World) (base : Nat) (e : TypeId) (z : Value) (m : Nat) (hb : base ≤ W.heap.size) (hm : m ≤ maxLen) :
    (W.alloc (.cells (madeCells #[z] m) e)).ownsRow base e 1 (.slice (some ⟨W.heap.size, 0, none⟩) m m) m (List.replicate m z) := by
  have h := World.ownsRow_lit (base := base) (e := e) (size := 1) W (madeCells #[z] m) m hb hm (by simp [size_madeCells])
  rwa [madeCells_one] at h

/-- Blocks of cells of element type e that lay in w lie in w1 as they lay. -/
def KeepT (e : TypeId) (w w1 : World) : Prop := ∀ (b : Nat) (cur : Array Value) (fr : Nat × Nat), w.heap[b]? = some (Obj.cells cur e fr) → w1.heap[b]? = some (Obj.cells cur e fr)
theorem KeepT.refl (e : TypeId) (w : World) : KeepT e w w := fun _ _ _ h => h
theorem KeepT.trans {e : TypeId} {w w1 w2 : World} (h : KeepT e w w1) (k : KeepT e w1 w2) : KeepT e w w2 := fun b c f q => k b c f (h b c f q)
theorem Ext.keepT {S : Nat → Prop} {w w1 : World} {e : TypeId} (h : Ext S w w1) (hs : ∀ (b : Nat) (cur : Array Value) (fr : Nat × Nat), w.heap[b]? = some (Obj.cells cur e fr) → ¬ S b) : KeepT e w w1 :=
  fun b cur fr q => (h.block b (lt_of_heap q) (hs b cur fr q)).trans q

end Go.Proofs.YtekolejeliefdaaGreat
