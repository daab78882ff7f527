/- The disk: what a disk in memory reads as, and the contracts of its small methods. -/
import Derived.Test.YtekolejeliefdaaGreatProg
import Derived.Test.YtekolejeliefdaaGreatMaps
set_option linter.unusedVariables false
set_option linter.unusedSimpArgs false
namespace Go.Proofs.YtekolejeliefdaaGreat
open Go.RowKit

theorem ret_int {k : IntKind} {a b : Int} (h : a = b) : Ending.returned (.int k a) = .returned (.int k b) := by rw [h]
def u8 (x : UInt8) : Value := .int .u8 x.toNat
def u8s (xs : List UInt8) : List Value := xs.map u8
/-- A disk: its sectors' bytes, those that were written since, in order of their numbers; behind how many calls the power goes; whether it is gone. -/
structure DS where
  size : Nat
  sure : List (List UInt8)
  dirty : List (Nat × List UInt8)
  cut : Int
  dead : Bool

structure DS.Ok (s : DS) : Prop where
  n1 : 1 ≤ s.sure.length
  n2 : s.sure.length ≤ 4096
  z1 : 64 ≤ s.size
  z2 : s.size ≤ 4096
  sz : ∀ x ∈ s.sure, x.length = s.size
  dz : ∀ p ∈ s.dirty, p.1 < s.sure.length ∧ p.2.length = s.size
  ds : s.dirty.Pairwise (fun p q => p.1 < q.1)
  c1 : -1 ≤ s.cut
  c2 : s.cut ≤ 9223372036854775807

/-- A slice that lies in none of these blocks. -/
def Off (X : Nat → Prop) (v : Value) : Prop := ∀ (b off n c : Nat), v = .slice (some ⟨b, off, none⟩) n c → ¬ X b
/-- Blocks of this kind, but for some, are what they were. -/
def KeepX (X : Nat → Prop) (e : TypeId) (w w1 : World) : Prop := ∀ (b : Nat) (cur : Array Value) (fr : Nat × Nat), ¬ X b → w.heap[b]? = some (Obj.cells cur e fr) → w1.heap[b]? = some (Obj.cells cur e fr)
/-- A slice that is read, in none of these blocks. -/
def RdX (X : Nat → Prop) (w : World) (e : TypeId) (k : Nat) (v : Value) (n : Nat) (cs : List Value) : Prop := Rd w e k v n cs ∧ Off X v
variable {X : Nat → Prop}
theorem KeepX.of {e : TypeId} {w w1 : World} (h : KeepT e w w1) : KeepX X e w w1 := fun b cur fr _ hb => h b cur fr hb
section
variable {w w1 : World} {e : TypeId} {k n : Nat} {v : Value} {cs : List Value}
theorem RdX.rd (h : RdX X w e k v n cs) : Rd w e k v n cs := h.1
theorem RdX.form (h : RdX X w e k v n cs) : ∃ a c, v = .slice a n c := h.1.form
theorem RdX.of_own {base : Nat} (h : w.ownsRow base e k v n cs) (hX : ∀ k, X k → k < base) : RdX X w e k v n cs := by
  refine ⟨.of_own h, ?_⟩
  rintro b off n' c rfl hb
  obtain ⟨hl, ⟨h, _⟩ | ⟨g, cap, cur, h, hg, _⟩⟩ := h
  · simp at h
  · simp only [Value.slice.injEq, Option.some.injEq, Addr.mk.injEq] at h
    have := hX b hb
    omega
theorem RdX.keptX (h : RdX X w e k v n cs) (hk : KeepX X e w w1) : RdX X w1 e k v n cs := by
  obtain ⟨⟨h1, h2, c, h3⟩, ho⟩ := h
  refine ⟨⟨h1, h2, c, ?_⟩, ho⟩
  rcases h3 with h3 | ⟨b, off, rfl, hc, h3 | ⟨cur, fr, hb, ht⟩⟩
  · exact .inl h3
  · exact .inr ⟨b, off, rfl, hc, .inl h3⟩
  · exact .inr ⟨b, off, rfl, hc, .inr ⟨cur, fr, hk b cur fr (ho b off n c rfl) hb, ht⟩⟩
theorem RdX.kept (h : RdX X w e k v n cs) (hk : KeepT e w w1) : RdX X w1 e k v n cs := h.keptX (.of hk)
end

/-- A map's entries are just these sectors' bytes. -/
def DRel (X : Nat → Prop) (w : World) (z : Nat) : ME → List (Nat × List UInt8) → Prop
  | [], [] => True
  | p :: l, q :: d => p.1 = .int .i64 q.1 ∧ RdX X w 5 1 p.2 z (u8s q.2) ∧ DRel X w z l d
  | _, _ => False
theorem DRel.keptX {w w1 : World} {z : Nat} (hk : KeepX X 5 w w1) : ∀ {l : ME} {d : List (Nat × List UInt8)}, DRel X w z l d → DRel X w1 z l d
  | [], [], _ => trivial
  | _ :: _, _ :: _, h => ⟨h.1, h.2.1.keptX hk, DRel.keptX hk h.2.2⟩
theorem DRel.kept {w w1 : World} {z : Nat} (hk : KeepT 5 w w1) {l : ME} {d : List (Nat × List UInt8)} (h : DRel X w z l d) : DRel X w1 z l d := h.keptX (.of hk)

/-- The disk at block p; its sectors' slices in block g, its map in block m. -/
structure DiskAt X (w : World) (p g m : Nat) (s : DS) : Prop where
  ok : s.Ok
  blk : ∃ sv, w.heap[p]? = some (.cells #[sv, .map (some m), .int .i64 s.cut, .bool s.dead] 112 (0, 0)) ∧
    ∃ (cap : Nat) (cur : Array Value), sv = .slice (some ⟨g, 0, none⟩) s.sure.length cap ∧ w.heap[g]? = some (.cells cur 114 (0, 0)) ∧ s.sure.length ≤ cap ∧ cap ≤ maxLen ∧ cur.size = cap ∧
      ∀ (i : Nat) (x : List UInt8), s.sure[i]? = some x → ∃ v, cur[i]? = some v ∧ RdX X w 5 1 v s.size (u8s x)
  map : ∃ l : ME, MapL Tryz.prog 3 w m l ∧ DRel X w s.size l s.dirty
  low : ∀ k, X k → k < w.heap.size
  off : ¬ X p ∧ ¬ X g ∧ ¬ X m

section
variable {w w1 : World} {p g m : Nat} {s : DS}
theorem DiskAt.ne (h : DiskAt X w p g m s) : p ≠ g ∧ p ≠ m ∧ g ≠ m := by
  obtain ⟨sv, hb, cap, cur, rfl, hg, _⟩ := h.blk
  obtain ⟨l, ⟨es, cl, hm, _⟩, _⟩ := h.map
  refine ⟨fun e => ?_, fun e => ?_, fun e => ?_⟩ <;> subst e <;> simp_all
theorem DiskAt.lt (h : DiskAt X w p g m s) : p < w.heap.size ∧ g < w.heap.size ∧ m < w.heap.size := by
  obtain ⟨sv, hb, cap, cur, rfl, hg, _⟩ := h.blk
  obtain ⟨l, ⟨es, cl, hm, _⟩, _⟩ := h.map
  exact ⟨lt_of_heap hb, lt_of_heap hg, lt_of_heap hm⟩
/-- What turns none of its blocks, and no block of bytes, leaves a disk as it is. -/
theorem DiskAt.kept (h : DiskAt X w p g m s) (hp : w1.heap[p]? = w.heap[p]?) (hg : w1.heap[g]? = w.heap[g]?) (hm : w1.heap[m]? = w.heap[m]?) (hz : w.heap.size ≤ w1.heap.size) (hk : KeepX X 5 w w1) : DiskAt X w1 p g m s := by
  refine ⟨h.ok, ?_, ?_, fun k hk => Nat.lt_of_lt_of_le (h.low k hk) hz, h.off⟩
  · obtain ⟨sv, hb, cap, cur, e, hg', h1, h2, h3, h4⟩ := h.blk
    refine ⟨sv, hp.trans hb, cap, cur, e, hg.trans hg', h1, h2, h3, fun i x hx => ?_⟩
    obtain ⟨v, hv, hr⟩ := h4 i x hx
    exact ⟨v, hv, hr.keptX hk⟩
  · obtain ⟨l, h1, h2⟩ := h.map
    exact ⟨l, h1.kept hm, h2.keptX hk⟩
theorem DiskAt.kept_ext {S : Nat → Prop} (h : DiskAt X w p g m s) (hx : Ext S w w1) (hp : ¬ S p) (hg : ¬ S g) (hm : ¬ S m) (hk : KeepT 5 w w1) : DiskAt X w1 p g m s :=
  h.kept (hx.block _ h.lt.1 hp) (hx.block _ h.lt.2.1 hg) (hx.block _ h.lt.2.2 hm) hx.size (.of hk)
theorem DiskAt.alloc (h : DiskAt X w p g m s) (o : Obj) : DiskAt X (w.alloc o) p g m s :=
  h.kept_ext (S := fun _ => False) ((Ext.refl _ w).alloc o) id id id (Ext.keepT (S := fun _ => False) ((Ext.refl _ w).alloc o) (fun _ _ _ _ => id))
/-- What is written into those blocks, and new ones, is none of the disk's. -/
theorem DiskAt.wrote {S : Nat → Prop} (h : DiskAt X w p g m s) (hx : Ext S w w1) (hS : ∀ k, S k → X k) : DiskAt X w1 p g m s :=
  h.kept (hx.block _ h.lt.1 (fun a => h.off.1 (hS _ a))) (hx.block _ h.lt.2.1 (fun a => h.off.2.1 (hS _ a))) (hx.block _ h.lt.2.2 (fun a => h.off.2.2 (hS _ a))) hx.size
    (fun b cur fr hb hq => (hx.block b (lt_of_heap hq) (fun a => hb (hS _ a))).trans hq)
theorem RdX.less {Y : Nat → Prop} {e : TypeId} {k n : Nat} {v : Value} {cs : List Value} (h : RdX X w e k v n cs) (hn : 0 < n) (hY : ∀ k, Y k → X k ∨ w.heap.size ≤ k) : RdX Y w e k v n cs := by
  refine ⟨h.1, ?_⟩
  rintro b off n' c rfl hb
  obtain ⟨b', off', c', e1, hlt, _⟩ := h.1.cell hn
  simp only [Value.slice.injEq, Option.some.injEq, Addr.mk.injEq] at e1
  rcases hY b hb with hb | hb
  · exact h.2 b off n' c rfl hb
  · omega
theorem DRel.less {Y : Nat → Prop} {z : Nat} (hz : 0 < z) (hY : ∀ k, Y k → X k ∨ w.heap.size ≤ k) : ∀ {l : ME} {d : List (Nat × List UInt8)}, DRel X w z l d → DRel Y w z l d
  | [], [], _ => trivial
  | _ :: _, _ :: _, h => ⟨h.1, h.2.1.less hz hY, DRel.less hz hY h.2.2⟩
/-- New blocks may be turned, too. -/
theorem DiskAt.more {Y : Nat → Prop} (h : DiskAt X w p g m s) (hb : Ext (fun _ => False) w w1) (hY : ∀ k, Y k → X k ∨ w.heap.size ≤ k) (hl : ∀ k, Y k → k < w1.heap.size) : DiskAt Y w1 p g m s := by
  have hz : 0 < s.size := by have := h.ok.z1; omega
  have h1 : p < w.heap.size ∧ g < w.heap.size ∧ m < w.heap.size := h.lt
  have hk : KeepX Y 5 w w1 := fun b cur fr _ hq => (hb.block b (lt_of_heap hq) id).trans hq
  refine ⟨h.ok, ?_, ?_, hl, ?_⟩
  · obtain ⟨sv, hb', cap, cur, e, hg', k1, k2, k3, k4⟩ := h.blk
    refine ⟨sv, (hb.block _ h1.1 id).trans hb', cap, cur, e, (hb.block _ h1.2.1 id).trans hg', k1, k2, k3, fun i x hx => ?_⟩
    obtain ⟨v, hv, hr⟩ := k4 i x hx
    exact ⟨v, hv, (hr.less hz hY).keptX hk⟩
  · obtain ⟨l, k1, k2⟩ := h.map
    exact ⟨l, k1.kept (hb.block _ h1.2.2 id), (k2.less hz hY).keptX hk⟩
  · refine ⟨fun a => ?_, fun a => ?_, fun a => ?_⟩
    · rcases hY _ a with a | a
      · exact h.off.1 a
      · omega
    · rcases hY _ a with a | a
      · exact h.off.2.1 a
      · omega
    · rcases hY _ a with a | a
      · exact h.off.2.2 a
      · omega
theorem DiskAt.drewN (h : DiskAt X w p g m s) (n : Nat) : DiskAt X (w.drewN n) p g m s := h.kept rfl rfl rfl (Nat.le_refl _) (.of (KeepT.refl _ w))
end

/-- One of the calls that take power: is there some? -/
def DS.power (s : DS) : DS × Bool := if s.cut = 0 then ({ s with dead := true }, false) else if 0 < s.cut then ({ s with cut := s.cut - 1 }, true) else (s, true)

theorem within_any (x l m : Int) (w : World) : Calls Tryz.prog 49 #[.int .i64 x, .int .i64 l, .int .i64 m] w fun e w' => e = .returned (.int .i64 (min (max x l) m)) ∧ w = w' := by
  go_enter Tryz.func49, Tryz.ntmps49
  go_wp2
  all_goals
    go_ret
    exact ⟨ret_int (by omega), rfl⟩

theorem sectors_any {w : World} {p g m : Nat} {s : DS} (h : DiskAt X w p g m s) : Calls Tryz.prog 81 #[.pointer (some ⟨p, 0, none⟩)] w fun e w' => e = .returned (.int .i64 s.sure.length) ∧ w = w' := by
  obtain ⟨sv, hb, cap, cur, rfl, hg, _⟩ := h.blk
  have c0 := cell_of_block hb 0
  simp only [List.getElem?_toArray, List.getElem?_cons_zero] at c0
  clear h hb hg
  go_enter Tryz.func81, Tryz.ntmps81
  go_wp2
  go_ret
  exact ⟨rfl, rfl⟩

theorem size_any {w : World} {p g m : Nat} {s : DS} (h : DiskAt X w p g m s) : Calls Tryz.prog 82 #[.pointer (some ⟨p, 0, none⟩)] w fun e w' => e = .returned (.int .i64 s.size) ∧ w = w' := by
  have hn := h.ok.n1
  obtain ⟨sv, hb, cap, cur, rfl, hg, _, _, _, hr⟩ := h.blk
  have c0 := cell_of_block hb 0
  simp only [List.getElem?_toArray, List.getElem?_cons_zero] at c0
  obtain ⟨v, hv, hrd⟩ := hr 0 _ (List.getElem?_eq_getElem (by omega))
  obtain ⟨a, c, rfl⟩ := hrd.form
  have c1 := cell_of_block hg 0
  rw [hv] at c1
  clear h hb hg hr hv
  go_enter Tryz.func82, Tryz.ntmps82
  go_wp2
  go_ret
  exact ⟨rfl, rfl⟩

def DS.at (s : DS) (i : Int) : Int := if s.dead then 32 else if i < 0 ∨ (s.sure.length : Int) ≤ i then 30 else 0

theorem at_any {w : World} {p g m : Nat} {s : DS} (h : DiskAt X w p g m s) (i : Int) : Calls Tryz.prog 176 #[.pointer (some ⟨p, 0, none⟩), .int .i64 i] w fun e w' => e = .returned (.int .i64 (s.at i)) ∧ w = w' := by
  have hn := h.ok.n1
  obtain ⟨sv, hb, cap, cur, rfl, _⟩ := h.blk
  have c0 := cell_of_block hb 0
  have c3 := cell_of_block hb 3
  simp at c0 c3
  clear h hb
  unfold DS.at
  generalize s.dead = d at *
  generalize s.sure.length = n at *
  cases d
  · by_cases h0 : i < 0
    · go_enter Tryz.func176, Tryz.ntmps176
      go_wp2
      go_ret
      exact ⟨by simp [h0], rfl⟩
    · by_cases h1 : (n : Int) ≤ i
      · go_enter Tryz.func176, Tryz.ntmps176
        go_wp2
        go_ret
        exact ⟨by simp [h1], rfl⟩
      · go_enter Tryz.func176, Tryz.ntmps176
        go_wp2
        go_ret
        exact ⟨by simp [h0, h1], rfl⟩
  · go_enter Tryz.func176, Tryz.ntmps176
    go_wp2
    go_ret
    exact ⟨by simp, rfl⟩
end Go.Proofs.YtekolejeliefdaaGreat
