/- Bytes that are written: numbers, texts, pairs. -/
import Derived.Test.YtekolejeliefdaaGreatSys
import Derived.Lib.AppendStr
set_option linter.unusedVariables false
set_option linter.unusedSimpArgs false
namespace Go.Proofs.YtekolejeliefdaaGreat
open Go.RowKit

/-- A number's bytes: seven bits each, the lowest first; the last one below 128. -/
def numF (x : Nat) : List UInt8 := if h : x < 128 then [UInt8.ofNat x] else UInt8.ofNat (x % 128 + 128) :: numF (x / 128)
termination_by x
decreasing_by omega
theorem numF_small {x : Nat} (h : x < 128) : numF x = [UInt8.ofNat x] := by rw [numF, dif_pos h]
theorem numF_big {x : Nat} (h : ¬ x < 128) : numF x = UInt8.ofNat (x % 128 + 128) :: numF (x / 128) := by rw [numF, dif_neg h]
theorem numF_le (k : Nat) : ∀ {x : Nat}, x < 128 ^ (k + 1) → (numF x).length ≤ k + 1 := by
  induction k with
  | zero => intro x h; rw [numF_small (by simpa using h)]; simp
  | succ k ih =>
    intro x h
    by_cases h1 : x < 128
    · rw [numF_small h1]; simp
    · rw [numF_big h1]
      have := ih (x := x / 128) (by rw [Nat.div_lt_iff_lt_mul (by omega)]; rw [Nat.pow_succ] at h; exact h)
      simp; omega
theorem numF_le10 {x : Nat} (h : x < 18446744073709551616) : (numF x).length ≤ 10 := numF_le 9 (Nat.lt_of_lt_of_le h (by decide))

theorem or128 : ∀ n : Fin 256, bits .or .u8 (n.val : Int) 128 = ((n.val % 128 + 128 : Nat) : Int) := by decide +kernel

theorem info_u8 : (Tryz.prog.info? 5).map (fun i => (i.zero, i.size, i.bytes)) = some (some (.int .u8 0), 1, 1) := by kernel_rfl
/-- A writer in a block: bytes of its own, all above a bound. -/
structure WAt (B : Nat) (w : World) (p : Nat) (bs : List UInt8) : Prop where
  lay : ∃ v, w.heap[p]? = some (.cells #[v] 177 (0, 0)) ∧ w.ownsRow B 5 1 v bs.length (u8s bs)
  above : B ≤ p

theorem WAt.alloc {B p : Nat} {w : World} {bs : List UInt8} (h : WAt B w p bs) (o : Obj) : WAt B (w.alloc o) p bs := by
  obtain ⟨⟨v, h1, h2⟩, h3⟩ := h
  exact ⟨⟨v, (heap_alloc_lt (lt_of_heap h1)).trans h1, own_keep h2 fun b cur fr hb => (heap_alloc_lt (lt_of_heap hb)).trans hb⟩, h3⟩

theorem newWriter_any (w : World) : Calls Tryz.prog 92 #[] w fun e w' => e = .returned (.pointer (some ⟨w.heap.size, 0, none⟩)) ∧ WAt w.heap.size w' w.heap.size [] ∧ Ext (fun _ => False) w w' := by
  go_enter Tryz.func92, Tryz.ntmps92
  go_wp2
  go_ret
  refine ⟨rfl, ⟨⟨.slice none 0 0, heap_alloc_new w _, rfl, .inl ⟨rfl, rfl⟩⟩, Nat.le_refl _⟩, (Ext.refl _ w).alloc _⟩

theorem WAt.wrote {B p n : Nat} {w w1 : World} {xs : List UInt8} {v v' : Value} (hb : w.heap[p]? = some (.cells #[v] 177 (0, 0))) (hB : B ≤ p)
    (ho : w1.ownsRow B 5 1 v' n (u8s xs)) (hx : Ext (fun i => B ≤ i ∧ i ≠ p) w w1) : WAt B (w1.setCell ⟨p, 0, none⟩ v') p xs ∧ Ext (fun i => B ≤ i) w (w1.setCell ⟨p, 0, none⟩ v') := by
  have hn : n = xs.length := by have := ho.1; simp [u8s] at this; omega
  subst hn
  have h1 : w1.heap[p]? = some (.cells #[v] 177 (0, 0)) := (hx.block p (lt_of_heap hb) (fun q => q.2 rfl)).trans hb
  have h2 := heap_setCell_at (i := 0) h1 v'
  refine ⟨⟨⟨v', h2, own_keep ho fun b cur fr hq => ?_⟩, hB⟩, (hx.mono fun _ _ q => q.1).setCell (fun _ => hB) _⟩
  rw [heap_setCell_ne (by intro e; subst e; simp [h1] at hq)]
  exact hq
theorem own_block_type {B n : Nat} {w : World} {v : Value} {xs : List Value} {p : Nat} {v0 : Value} (ho : w.ownsRow B 5 1 v n xs) (hb : w.heap[p]? = some (.cells #[v0] 177 (0, 0))) :
    ∀ k, v.ownBlock = some k → B ≤ k ∧ k ≠ p := by
  intro k hk
  obtain ⟨_, ⟨rfl, _⟩ | ⟨g, cap, cur, rfl, hg, hh, _⟩⟩ := ho
  · simp [Value.ownBlock] at hk
  · simp [Value.ownBlock] at hk
    subst hk
    refine ⟨hg, ?_⟩
    rintro rfl
    simp [hh] at hb
theorem u8s_one (x : UInt8) : u8s [x] = [.int .u8 x.toNat] := rfl

set_option maxRecDepth 100000 in
set_option maxHeartbeats 1000000 in
theorem num_any {B p k x : Nat} {w : World} {bs : List UInt8} (h : WAt B w p bs) (hk : w.cell? ⟨k, 0, none⟩ = some (.int .u64 x)) (hx : x < 18446744073709551616) (hl : bs.length ≤ 1073741824) :
    Calls Tryz.prog 139 #[.pointer (some ⟨p, 0, none⟩), .slice (some ⟨k, 0, none⟩) 1 1] w fun e w' => e = .returned (.tuple #[]) ∧ WAt B w' p (bs ++ numF x) ∧ Ext (fun i => B ≤ i) w w' := by
  have H := Lib.hid h
  have HL := Lib.hid hl
  clear h hl
  go_enter Tryz.func139, Tryz.ntmps139
  go_wp2
  go_loopw [5, 8] (fun _ iv wr => (iv = .int .i64 0 ∧ wr = w) ∨ (iv = .int .i64 1 ∧ Hid (WAt B wr p (bs ++ numF x) ∧ Ext (fun i => B ≤ i) w wr))) (fun _ iv _ => 1 - (intOf iv).toNat)
  case atStart => exact .inl ⟨rfl, rfl⟩
  case round =>
    rcases hrel with ⟨rfl, rfl⟩ | ⟨rfl, H1⟩
    · obtain ⟨wo, rfl⟩ : ∃ wo : World, wo = wr := ⟨_, rfl⟩
      go_wp2_with fail
      go_loopw [5] (fun xv wr => ∃ y : Nat, xv = .int .u64 y ∧ Hid (y < 18446744073709551616 ∧ ∃ cs, numF x = cs ++ numF y ∧ WAt B wr p (bs ++ cs) ∧ Ext (fun i => B ≤ i) wo wr)) (fun xv _ => (intOf xv).toNat)
      case atStart => exact ⟨x, rfl, hx, [], rfl, by simpa using H.out, Ext.refl _ _⟩
      case round =>
        obtain ⟨y, rfl, Hy⟩ := hrel
        have hy := Hy.out.1
        obtain ⟨v, cs, hcell, hfz, HV⟩ : ∃ v cs, wr.cell? ⟨p, 0, none⟩ = some v ∧ wr.frozen? ⟨p, 0, none⟩ = false ∧ Hid (numF x = cs ++ numF y ∧ wr.heap[p]? = some (.cells #[v] 177 (0, 0)) ∧ wr.ownsRow B 5 1 v (bs ++ cs).length (u8s (bs ++ cs)) ∧ Ext (fun i => B ≤ i) wo wr ∧ B ≤ p) := by
          obtain ⟨_, cs, h1, ⟨⟨v, h2, h3⟩, h4⟩, h5⟩ := Hy.out
          have c0 := cell_of_block h2 0
          simp at c0
          exact ⟨v, cs, c0, free_of_block h2 0, h1, h2, h3, h5, h4⟩
        clear Hy
        obtain ⟨a, c, rfl⟩ := (Rd.of_own HV.out.2.2.1).form
        have hl := HL.out
        have hcs : cs.length ≤ 10 := by
          have h1 := numF_le10 hx
          rw [HV.out.1, List.length_append] at h1
          omega
        obtain ⟨n, hn⟩ : ∃ n, (bs ++ cs).length = n := ⟨_, rfl⟩
        have hn2 : n ≤ 1073741834 := by rw [← hn, List.length_append]; omega
        have HN := Lib.hid hn
        rw [hn] at HV hcell
        have HA : Hid (∀ z : Nat, z < 256 → (wr.alloc (.cells #[.int .u8 z] 5)).ownsRow B 5 1 (.slice a n c) n (u8s (bs ++ cs)) ∧ Rd (wr.alloc (.cells #[.int .u8 z] 5)) 5 1 (.slice (some ⟨wr.heap.size, 0, none⟩) 1 1) 1 (u8s [UInt8.ofNat z])) := by
          intro z hz
          refine ⟨own_keep HV.out.2.2.1 fun b cur fr hb => (heap_alloc_lt (lt_of_heap hb)).trans hb, rfl, by simp [maxLen], 1, .inr ⟨wr.heap.size, 0, rfl, Nat.le_refl _, .inr ⟨_, (0, 0), heap_alloc_new wr _, ?_⟩⟩⟩
          simp [u8s, Proofs.YtekolejeliefdaaGreat.u8]
          omega
        have HB : Hid (B ≤ wr.heap.size + 1) := by
          have := lt_of_heap HV.out.2.1
          have := HV.out.2.2.2.2
          exact Lib.hid (by omega)
        have HP : Hid (∀ (o : Obj) (W : World) (v' : Value) (z : UInt8), W.ownsRow B 5 1 v' (n + 1) (u8s (bs ++ cs) ++ u8s [z]) → (wr.alloc o).grownBy W (Value.slice a n c).ownBlock →
            W.cell? ⟨p, 0, none⟩ = some (.slice a n c) ∧ W.frozen? ⟨p, 0, none⟩ = false ∧ Hid (WAt B (W.setCell ⟨p, 0, none⟩ v') p (bs ++ (cs ++ [z])) ∧ Ext (fun i => B ≤ i) wo (W.setCell ⟨p, 0, none⟩ v'))) := by
          intro o W v' z h1 h2
          have hx : Ext (fun i => B ≤ i ∧ i ≠ p) wr W := ((Ext.refl _ wr).alloc o).trans (Ext.of_grown h2 fun k hk => own_block_type HV.out.2.2.1 HV.out.2.1 k hk)
          have hb : W.heap[p]? = some (.cells #[.slice a n c] 177 (0, 0)) := (hx.block p (lt_of_heap HV.out.2.1) (fun q => q.2 rfl)).trans HV.out.2.1
          have c0 := cell_of_block hb 0
          simp at c0
          have h3 := WAt.wrote (xs := bs ++ (cs ++ [z])) HV.out.2.1 HV.out.2.2.2.2 (by rw [← List.append_assoc]; simpa [u8s] using h1) hx
          exact ⟨c0, free_of_block hb 0, h3.1, HV.out.2.2.2.1.trans h3.2⟩
        have hone : ∀ (l : List UInt8), ∀ u ∈ u8s l, u.oneCell' = true := u8s_oneCell
        have HONE := Lib.hid hone
        clear hone
        by_cases hy1 : y < 128
        · go_wp2_with (at_builtin; refine wpList_app rfl (.tmp 32) (.tmp 35) 114 rfl B 5 1 1 (.int .u8 0) Tryz.underlying114 (by kernel_rfl) rfl (by omega) (.slice a n c) n (u8s (bs ++ cs)) rfl (HA.out y (by omega)).1 _ 1 (u8s [UInt8.ofNat y]) 5 rfl (HA.out y (by omega)).2 (HONE.out _) (by simp only [maxLen]; omega) (by omega) (by simpa using HB.out) ?_; intro v' W q1 q2 _; obtain ⟨g1, g2, G⟩ := HP.out _ W v' _ q1 q2; obtain ⟨a', c', rfl⟩ := (Rd.of_own q1).form; clear q1 q2)
          refine ⟨.inr ⟨rfl, ?_⟩, by decide⟩
          have h1 := HV.out.1
          rw [numF_small hy1] at h1
          rw [h1]
          exact G
        · have he : bits .or .u8 ((y : Int) % 256) 128 = ((y % 128 + 128 : Nat) : Int) := by
            have h1 := or128 ⟨y % 256, by omega⟩
            simp only [] at h1
            have h2 : ((y : Int) % 256) = ((y % 256 : Nat) : Int) := by omega
            rw [h2, h1]
            omega
          have HE := Lib.hid he
          clear he
          go_wp2_with (at_builtin; rw [HE.out]; refine wpList_app rfl (.tmp 20) (.tmp 24) 114 rfl B 5 1 1 (.int .u8 0) Tryz.underlying114 (by kernel_rfl) rfl (by omega) (.slice a n c) n (u8s (bs ++ cs)) rfl (HA.out (y % 128 + 128) (by omega)).1 _ 1 (u8s [UInt8.ofNat (y % 128 + 128)]) 5 rfl (HA.out (y % 128 + 128) (by omega)).2 (HONE.out _) (by simp only [maxLen]; omega) (by omega) (by simpa using HB.out) ?_; intro v' W q1 q2 _; obtain ⟨g1, g2, G⟩ := HP.out _ W v' _ q1 q2; obtain ⟨a', c', rfl⟩ := (Rd.of_own q1).form; clear q1 q2)
          refine ⟨⟨y / 128, by rw [Int.natCast_ediv]; rfl, by omega, cs ++ [UInt8.ofNat (y % 128 + 128)], ?_, G.out⟩, ?_⟩
          · rw [HV.out.1, numF_big hy1]
            simp
          · simp only [intOf]
            omega
    · go_wp2_with fail
      go_end0
      exact ⟨rfl, H1.out⟩

/-- A text's bytes: how long it is, and itself. -/
def textF (s : List UInt8) : List UInt8 := numF s.length ++ s
def boolF (b : Bool) : List UInt8 := [if b then 1 else 0]

set_option maxHeartbeats 1000000 in
theorem bool_any {B p k : Nat} {x : Bool} {w : World} {bs : List UInt8} (h : WAt B w p bs) (hB : B ≤ w.heap.size) (hk : w.cell? ⟨k, 0, none⟩ = some (.bool x)) (hl : bs.length ≤ 1073741824) :
    Calls Tryz.prog 93 #[.pointer (some ⟨p, 0, none⟩), .slice (some ⟨k, 0, none⟩) 1 1] w fun e w' => e = .returned (.tuple #[]) ∧ WAt B w' p (bs ++ boolF x) ∧ Ext (fun i => B ≤ i) w w' := by
  have H := Lib.hid (And.intro h (And.intro hB hl))
  have HN : Hid (∀ o : Obj, o = .cells #[.int .u64 (if x then 1 else 0 : Nat)] 143 → Calls Tryz.prog 139 #[.pointer (some ⟨p, 0, none⟩), .slice (some ⟨w.heap.size, 0, none⟩) 1 1] (w.alloc o) fun e w' => e = .returned (.tuple #[]) ∧ WAt B w' p (bs ++ boolF x) ∧ Ext (fun i => B ≤ i) w w') := by
    rintro o rfl
    have h1 := num_any (h.alloc (.cells #[.int .u64 (if x then 1 else 0 : Nat)] 143)) (k := w.heap.size) (x := if x then 1 else 0) (by rw [cell_of_block (heap_alloc_new w _)]; rfl) (by split <;> omega) hl
    refine h1.mono ?_
    rintro e w' ⟨rfl, h2, h3⟩
    refine ⟨rfl, ?_, ((Ext.refl _ w).alloc _).trans h3⟩
    cases x <;> simpa [boolF, numF_small] using h2
  clear h hB hl
  go_enter Tryz.func93, Tryz.ntmps93
  go_wp2
  go_loopw [5, 6, 9] (fun _ _ iv wr => (iv = .int .i64 0 ∧ wr = w) ∨ (iv = .int .i64 1 ∧ Hid (WAt B wr p (bs ++ boolF x) ∧ Ext (fun i => B ≤ i) w wr))) (fun _ _ iv _ => 1 - (intOf iv).toNat)
  case atStart => exact .inl ⟨rfl, rfl⟩
  case round =>
    rcases hrel with ⟨rfl, rfl⟩ | ⟨rfl, H1⟩
    · cases x
      · go_wp2_with (refine (HN.out _ rfl).mono ?_; rintro e w1 ⟨rfl, h1, h2⟩; have G := Lib.hid (And.intro h1 h2); clear h1 h2)
        exact ⟨.inr ⟨rfl, G⟩, by decide⟩
      · go_wp2_with (refine (HN.out _ rfl).mono ?_; rintro e w1 ⟨rfl, h1, h2⟩; have G := Lib.hid (And.intro h1 h2); clear h1 h2)
        exact ⟨.inr ⟨rfl, G⟩, by decide⟩
    · go_wp2_with fail
      go_end0
      exact ⟨rfl, H1.out⟩

/-- Bytes as a string. -/
abbrev bstr (s : List UInt8) : Value := .string ⟨s.toArray⟩
theorem strCells_bstr (s : List UInt8) : Lib.strCells ⟨s.toArray⟩ = u8s s := by simp [Lib.strCells, u8s, u8]
theorem size_bstr (s : List UInt8) : (ByteArray.mk s.toArray).size = s.length := by simp [ByteArray.size]

set_option maxHeartbeats 1000000 in
theorem text_any {B p k : Nat} {x : List UInt8} {w : World} {bs : List UInt8} (h : WAt B w p bs) (hB : B ≤ w.heap.size) (hk : w.cell? ⟨k, 0, none⟩ = some (bstr x)) (hl : bs.length + x.length ≤ 1073741000) :
    Calls Tryz.prog 94 #[.pointer (some ⟨p, 0, none⟩), .slice (some ⟨k, 0, none⟩) 1 1] w fun e w' => e = .returned (.tuple #[]) ∧ WAt B w' p (bs ++ textF x) ∧ Ext (fun i => B ≤ i) w w' := by
  have H := Lib.hid (And.intro h (And.intro hB hl))
  have hxl : (x.length : Int) ≤ 1073741000 := by omega
  have HN : Hid (∀ o : Obj, o = .cells #[.int .u64 x.length] 143 → Calls Tryz.prog 139 #[.pointer (some ⟨p, 0, none⟩), .slice (some ⟨w.heap.size, 0, none⟩) 1 1] (w.alloc o) fun e w' => e = .returned (.tuple #[]) ∧
      ∃ a n c, w'.cell? ⟨p, 0, none⟩ = some (.slice a n c) ∧ Hid (n = bs.length + (numF x.length).length ∧ w'.heap[p]? = some (.cells #[.slice a n c] 177 (0, 0)) ∧ w'.ownsRow B 5 1 (.slice a n c) n (u8s (bs ++ numF x.length)) ∧ Ext (fun i => B ≤ i) w w' ∧ B ≤ p ∧ B ≤ w'.heap.size)) := by
    rintro o rfl
    have h1 := num_any (h.alloc (.cells #[.int .u64 x.length] 143)) (k := w.heap.size) (x := x.length) (by rw [cell_of_block (heap_alloc_new w _)]; rfl) (by omega) (by omega)
    refine h1.mono ?_
    rintro e w' ⟨rfl, ⟨⟨v, h2, h3⟩, h4⟩, h5⟩
    obtain ⟨a, c, rfl⟩ := (Rd.of_own h3).form
    have c0 := cell_of_block h2 0
    simp at c0
    refine ⟨rfl, a, _, c, by simpa using c0, by simp, by simpa using h2, by simpa using h3, ((Ext.refl _ w).alloc _).trans h5, h4, ?_⟩
    have := h5.size
    simp at this
    omega
  clear h hB hl
  go_enter Tryz.func94, Tryz.ntmps94
  go_wp2
  go_loopw [5, 8] (fun _ iv wr => (iv = .int .i64 0 ∧ wr = w) ∨ (iv = .int .i64 1 ∧ Hid (WAt B wr p (bs ++ textF x) ∧ Ext (fun i => B ≤ i) w wr))) (fun _ iv _ => 1 - (intOf iv).toNat)
  case atStart => exact .inl ⟨rfl, rfl⟩
  case round =>
    rcases hrel with ⟨rfl, rfl⟩ | ⟨rfl, H1⟩
    · simp only [bstr] at hk
      go_wp2_with fail
      refine (HN.out _ rfl).mono ?_
      rintro e w1 ⟨rfl, a, n, c, hcell, HV⟩
      have hfz := free_of_block HV.out.2.1 0
      have hn2 : n ≤ bs.length + 10 := by
        rw [HV.out.1]
        exact Nat.add_le_add_left (numF_le10 (by omega)) _
      have hlb := H.out.2.2
      have HP : Hid (∀ (W : World) (v' : Value), W.ownsRow B 5 1 v' (n + (ByteArray.mk x.toArray).size) (u8s (bs ++ numF x.length) ++ Lib.strCells ⟨x.toArray⟩) → w1.grownBy W (Value.slice a n c).ownBlock →
          W.cell? ⟨p, 0, none⟩ = some (.slice a n c) ∧ W.frozen? ⟨p, 0, none⟩ = false ∧ Hid (WAt B (W.setCell ⟨p, 0, none⟩ v') p (bs ++ textF x) ∧ Ext (fun i => B ≤ i) wr (W.setCell ⟨p, 0, none⟩ v'))) := by
        intro W v' h1 h2
        have hx : Ext (fun i => B ≤ i ∧ i ≠ p) w1 W := Ext.of_grown h2 fun k hk => own_block_type HV.out.2.2.1 HV.out.2.1 k hk
        have hb : W.heap[p]? = some (.cells #[.slice a n c] 177 (0, 0)) := (hx.block p (lt_of_heap HV.out.2.1) (fun q => q.2 rfl)).trans HV.out.2.1
        have c0 := cell_of_block hb 0
        simp at c0
        have h3 := WAt.wrote (xs := bs ++ textF x) HV.out.2.1 HV.out.2.2.2.2.1 (by rw [strCells_bstr] at h1; simpa [u8s, textF] using h1) hx
        exact ⟨c0, free_of_block hb 0, h3.1, HV.out.2.2.2.1.trans h3.2⟩
      have hsz : (ByteArray.mk x.toArray).size = x.length := size_bstr x
      have HS := Lib.hid hsz
      obtain ⟨i8, hi8⟩ : ∃ i, Hid (Tryz.prog.info? 5 = some i ∧ i.zero = some (.int .u8 0) ∧ i.size = 1 ∧ i.bytes = 1) := by
        have h := info_u8
        obtain ⟨i0, hi, hzz⟩ := Option.map_eq_some_iff.1 h
        simp only [Prod.mk.injEq] at hzz
        exact ⟨i0, hi, hzz⟩
      clear hsz
      go_wp2_with (at_builtin; refine Lib.wpList_append_own_string _ rfl (.tmp 22) (.tmp 23) 114 9 rfl B 5 i8 Tryz.underlying114 Tryz.underlying9 hi8.out.1 hi8.out.2.1 hi8.out.2.2.1 hi8.out.2.2.2 (.slice a n c) n _ rfl HV.out.2.2.1 ⟨x.toArray⟩ rfl (by rw [HS.out]; simp only [maxLen]; omega) (by rw [HS.out]; omega) HV.out.2.2.2.2.2 ?_; intro v' W q1 q2 _; obtain ⟨g1, g2, G⟩ := HP.out W v' q1 q2; obtain ⟨a', c', rfl⟩ := (Rd.of_own q1).form; clear q1 q2)
      exact ⟨.inr ⟨rfl, G⟩, by decide⟩
    · go_wp2_with fail
      go_end0
      exact ⟨rfl, H1.out⟩

end Go.Proofs.YtekolejeliefdaaGreat
