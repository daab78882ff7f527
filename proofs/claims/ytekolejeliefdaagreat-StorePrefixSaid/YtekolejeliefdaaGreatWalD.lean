/- The log: a frame is laid. -/
import Derived.Test.YtekolejeliefdaaGreatWalC
import Derived.Laws.CopyRow
import Derived.Laws.IdiomCopy
set_option linter.unusedVariables false
set_option linter.unusedSimpArgs false
namespace Go.Proofs.YtekolejeliefdaaGreat
open Go.RowKit
variable {X : Nat → Prop}

section
variable {w w1 : World} {lp um p g m : Nat} {l : LS} {s s' : DS}
/-- The disk has gone on, the log's own blocks not. -/
theorem LogAt.went {S : Nat → Prop} (h : LogAt X w lp um l p g m s) (hx : Ext S w w1) (hS : ∀ k, S k → k = p ∨ k = g ∨ k = m) (hd : DiskAt X w1 p g m s') : LogAt X w1 lp um l p g m s' := by
  obtain ⟨a1, a2, a3, a4, a5, a6, a7⟩ := h.apart
  exact ⟨(hx.block _ h.lt.1 (fun a => by rcases hS _ a with e | e | e <;> omega)).trans h.blk, h.und.kept (hx.block _ h.lt.2 (fun a => by rcases hS _ a with e | e | e <;> omega)), hd, h.ne, h.off⟩
theorem LogAt.wrote {S : Nat → Prop} (h : LogAt X w lp um l p g m s) (hx : Ext S w w1) (hS : ∀ k, S k → X k) : LogAt X w1 lp um l p g m s :=
  ⟨(hx.block _ h.lt.1 (fun a => h.off.1 (hS _ a))).trans h.blk, h.und.kept (hx.block _ h.lt.2 (fun a => h.off.2 (hS _ a))), h.disk.wrote hx hS, h.ne, h.off⟩
theorem LogAt.more {Y : Nat → Prop} (h : LogAt X w lp um l p g m s) (hx : Ext (fun _ => False) w w1) (hY : ∀ k, Y k → X k ∨ w.heap.size ≤ k) (hl : ∀ k, Y k → k < w1.heap.size) : LogAt Y w1 lp um l p g m s := by
  have h1 := h.lt
  refine ⟨(hx.block _ h1.1 id).trans h.blk, h.und.kept (hx.block _ h1.2 id), h.disk.more hx hY hl, h.ne, fun a => ?_, fun a => ?_⟩
  · rcases hY _ a with a | a
    · exact h.off.1 a
    · omega
  · rcases hY _ a with a | a
    · exact h.off.2 a
    · omega
/-- A block that is new may be turned, too. -/
theorem LogAt.fresh (h : LogAt X w lp um l p g m s) (o : Obj) : LogAt (fun q => X q ∨ q = w.heap.size) (w.alloc o) lp um l p g m s := by
  refine h.more ((Ext.refl _ w).alloc _) (fun q hq => hq.imp id (fun e => by omega)) (fun q hq => ?_)
  rcases hq with hq | rfl
  · have := h.disk.low q hq
    simp
    omega
  · simp
theorem LogAt.fewer {Y : Nat → Prop} (h : LogAt X w lp um l p g m s) (hY : ∀ k, Y k → X k) : LogAt Y w lp um l p g m s :=
  h.more (Ext.refl _ w) (fun k hk => .inl (hY k hk)) (fun k hk => h.disk.low k (hY k hk))
theorem LogAt.past {S : Nat → Prop} (h : LogAt X w lp um l p g m s) (hx : Ext S w w1) (hS : ¬ S lp ∧ ¬ S um ∧ ¬ S p ∧ ¬ S g ∧ ¬ S m) (hk : KeepT 5 w w1) : LogAt X w1 lp um l p g m s :=
  ⟨(hx.block _ h.lt.1 hS.1).trans h.blk, h.und.kept (hx.block _ h.lt.2 hS.2.1), h.disk.kept_ext hx hS.2.2.1 hS.2.2.2.1 hS.2.2.2.2 hk, h.ne, h.off⟩
end

/-- The i-th sector of a frame: so many of its bytes; behind them, in the first, the turn and the number. -/
def secF (z turn next : Nat) (b : List UInt8) (i : Nat) : List UInt8 :=
  (b.drop (i * z)).take z ++ List.replicate (z - ((b.drop (i * z)).take z).length) 0 ++ (if i = 0 then putF 8 turn ++ putF 8 ((next + 1) % 18446744073709551616) else List.replicate 16 0)
/-- The last k sectors' writes, the first behind a flush; what is told; did the first one come to be written? -/
def layL (from_ turn next z : Nat) (b : List UInt8) : Nat → DS → DS × Int × Bool
  | 0, s => (s, 0, true)
  | 1, s =>
    if s.flush.2 ≠ 0 then (s.flush.1, s.flush.2, false)
    else ((s.flush.1.write from_ (secF z turn next b 0)).1, (s.flush.1.write from_ (secF z turn next b 0)).2, true)
  | k + 2, s =>
    if (s.write ((from_ + (k + 1) : Nat) : Int) (secF z turn next b (k + 1))).2 ≠ 0 then ((s.write ((from_ + (k + 1) : Nat) : Int) (secF z turn next b (k + 1))).1, (s.write ((from_ + (k + 1) : Nat) : Int) (secF z turn next b (k + 1))).2, false)
    else layL from_ turn next z b (k + 1) (s.write ((from_ + (k + 1) : Nat) : Int) (secF z turn next b (k + 1))).1
/-- A frame is laid: what the disk is then, what is told, is the frame's first sector in doubt? -/
def layF (from_ turn next : Nat) (b : List UInt8) (s : DS) : DS × Int × Bool :=
  let r := layL from_ turn next (s.size - 16) b (secsF (s.size - 16) b.length) s
  if r.2.1 ≠ 0 then r else (r.1.flush.1, r.1.flush.2, decide (r.1.flush.2 ≠ 0))

section
variable {w : World} {lp um p g m : Nat} {l : LS} {s : DS}
theorem undo_any (h : LogAt X w lp um l p g m s) (hu : l.undone = []) : Calls Tryz.prog 159 #[.pointer (some ⟨lp, 0, none⟩)] w fun e w' => e = .returned (.int .i64 0) ∧ w = w' := by
  have c0 := cell_of_block h.blk 5
  simp at c0
  have hs := h.und.size Tryz.underlying160 3
  rw [hu] at hs
  clear h
  go_enter Tryz.func159, Tryz.ntmps159
  go_wp2
  go_ret
  exact ⟨rfl, rfl⟩
end
/-- Blocks of bytes outlast what a disk does to its own. -/
theorem DiskAt.keepB {w w1 : World} {p g m : Nat} {s : DS} (h : DiskAt X w p g m s) {S : Nat → Prop} (hx : Ext S w w1) (hS : ∀ k, S k → k = p ∨ k = g ∨ k = m) : KeepT 5 w w1 := by
  refine hx.keepT ?_
  intro b cur fr hq hs
  rcases hS b hs with rfl | rfl | rfl
  · obtain ⟨sv, hb, _⟩ := h.blk
    rw [hb] at hq
    simp at hq
  · obtain ⟨sv, hb, cap, c2, _, hg, _⟩ := h.blk
    rw [hg] at hq
    simp at hq
  · obtain ⟨l, hm, _⟩ := h.map
    exact hm.noCells _ _ _ hq
/-- 'copy' of bytes into a row. -/
theorem copy_bytes {w : World} {g o dLen dCap m : Nat} {cur : Array Value} {v : Value} {xs : List UInt8} (hg : w.heap[g]? = some (.cells cur 5 (0, 0))) (hf : o + dLen ≤ cur.size) (hr : Rd w 5 1 v m (u8s xs)) :
    ∃ W1, (Builtin.copy_ #[114, 114] 3 #[.slice (some ⟨g, o, none⟩) dLen dCap, v]).run Tryz.prog w = .ok (.int .i64 (min m dLen : Nat)) W1 ∧ W1.heap[g]? = some (.cells (cut3 cur o (u8s (xs.take dLen))) 5 (0, 0)) ∧ Ext (· = g) w W1 := by
  have hl : xs.length = m := by have := hr.1; simpa [u8s] using this
  obtain ⟨a, c, rfl⟩ := hr.form
  by_cases h0 : min m dLen = 0
  · refine ⟨w, ?_, ?_, Ext.refl _ _⟩
    · rw [run_copy_none (P := Tryz.prog) w 114 114 3 5 _ _ _ _ _ _ Tryz.underlying114 (by kernel_rfl) h0, h0]
      rfl
    · have e1 : xs.take dLen = [] := List.eq_nil_of_length_eq_zero (by rw [List.length_take]; omega)
      rw [hg, e1]
      simp [u8s, cut3_nil]
  · have hn : 0 < m := by omega
    obtain ⟨b, off, c', e1, _⟩ := hr.cell hn
    simp only [Value.slice.injEq, true_and] at e1
    obtain ⟨rfl, rfl⟩ := e1
    have hn2 : (u8s (xs.take dLen)).length = Nat.min m dLen := by simp only [u8s, List.length_map, List.length_take, hl]; exact Nat.min_comm _ _
    have hsrc : ∀ (j : Nat) (u : Value), (u8s (xs.take dLen))[j]? = some u → w.cell? ((⟨b, off, none⟩ : Addr).add j) = some u := by
      intro j u hj
      refine hr.news j u ?_
      have hj2 := (List.getElem?_eq_some_iff.1 hj).1
      rw [u8s, List.map_take] at hj
      rwa [List.getElem?_take_of_lt (by rw [hn2] at hj2; have : Nat.min m dLen ≤ dLen := Nat.min_le_right m dLen; omega)] at hj
    have hcp := run_copy_row (P := Tryz.prog) w 114 114 3 5 g o dLen dCap ⟨b, off, none⟩ m c cur 5 (u8s (xs.take dLen)) Tryz.underlying114 (by kernel_rfl) hg hn2 hsrc (by rw [hn2]; have : Nat.min m dLen ≤ dLen := Nat.min_le_right m dLen; omega) (u8s_oneCell _)
    refine ⟨w.setRow g (cut3 cur o (u8s (xs.take dLen))), by rw [hcp]; show Result.ok (goInt ((u8s (xs.take dLen)).length : Nat)) (w.setRow g (cut3 cur o (u8s (xs.take dLen)))) = _; rw [hn2]; rfl, setRow_heap w g cur _ 5 (0, 0) hg, ⟨rfl, rfl, rfl, by simp, fun k hk hn => setRow_other _ _ _ _ hn⟩⟩
theorem DS.write_dims (s : DS) (i : Int) (b : List UInt8) : (s.write i b).1.size = s.size ∧ (s.write i b).1.sure.length = s.sure.length := by
  have h := s.power_eq
  unfold DS.write
  split
  · exact ⟨rfl, rfl⟩
  · split
    · exact ⟨rfl, rfl⟩
    · split
      · exact ⟨h.1, by rw [h.2.1]⟩
      · exact ⟨h.1, by rw [h.2.1]⟩
theorem DS.flush_dims (s : DS) : s.flush.1.size = s.size ∧ s.flush.1.sure.length = s.sure.length := by
  have h := s.power_eq
  unfold DS.flush
  split
  · exact ⟨rfl, rfl⟩
  · split
    · exact ⟨h.1, by rw [h.2.1]⟩
    · exact ⟨h.1, by simp [DS.settled, stk_length, h.2.1]⟩
end Go.Proofs.YtekolejeliefdaaGreat
