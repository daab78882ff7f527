/- The log: numbers written, frames made. -/
import Derived.Test.YtekolejeliefdaaGreatWalA
import Derived.Lib.BufferWrite
set_option linter.unusedVariables false
set_option linter.unusedSimpArgs false
namespace Go.Proofs.YtekolejeliefdaaGreat
open Go.RowKit
variable {X : Nat → Prop}

/-- A number as so many bytes, the highest first. -/
def putF (k n : Nat) : List UInt8 := (List.range k).map fun i => UInt8.ofNat (n / 2 ^ (8 * (k - 1 - i)))
@[simp] theorem putF_length (k n : Nat) : (putF k n).length = k := by simp [putF]
/-- Cells with some in their midst written anew. -/
def cut3 (cur : Array Value) (off : Nat) (xs : List Value) : Array Value := (cur.toList.take off ++ xs ++ cur.toList.drop (off + xs.length)).toArray

theorem cut3_size {cur : Array Value} {off : Nat} {xs : List Value} (h : off + xs.length ≤ cur.size) : (cut3 cur off xs).size = cur.size := by
  simp [cut3]
  omega
theorem cut3_nil (cur : Array Value) (off : Nat) : cut3 cur off [] = cur := by simp [cut3]
theorem cut3_at {cur : Array Value} {off : Nat} {xs : List Value} (h : off + xs.length ≤ cur.size) (i : Nat) : (cut3 cur off xs)[i]? = if off ≤ i ∧ i < off + xs.length then xs[i - off]? else cur[i]? := by
  have h1 : (cur.toList.take off).length = off := by rw [List.length_take, Array.length_toList]; omega
  simp only [cut3, List.getElem?_toArray]
  rw [List.append_assoc]
  by_cases h2 : i < off
  · rw [List.getElem?_append_left (by omega), List.getElem?_take_of_lt h2, Array.getElem?_toList, if_neg (by omega)]
  · rw [List.getElem?_append_right (by omega), h1]
    by_cases h3 : i < off + xs.length
    · rw [List.getElem?_append_left (by omega), if_pos (by omega)]
    · rw [List.getElem?_append_right (by omega), List.getElem?_drop, if_neg (by omega), Array.getElem?_toList]
      congr 1
      omega
theorem cut3_push {cur : Array Value} {off : Nat} {xs : List Value} (v : Value) (h : off + xs.length < cur.size) : (cut3 cur off xs).setIfInBounds (off + xs.length) v = cut3 cur off (xs ++ [v]) := by
  apply Array.ext_getElem?
  intro i
  have h1 := cut3_size (cur := cur) (off := off) (xs := xs) (by omega)
  rw [cut3_at (by simp; omega)]
  by_cases hi : off + xs.length = i
  · subst hi
    rw [Array.getElem?_setIfInBounds_self_of_lt (by omega), if_pos (by simp)]
    simp
  · rw [Array.getElem?_setIfInBounds_ne hi, cut3_at (by omega)]
    simp only [List.length_append, List.length_cons, List.length_nil]
    by_cases h2 : off ≤ i ∧ i < off + xs.length
    · rw [if_pos h2, if_pos (by omega), List.getElem?_append_left (by omega)]
    · rw [if_neg h2, if_neg (by omega)]
theorem put_any {w : World} {b off k c n : Nat} {cur : Array Value} {e : TypeId} (hb : w.heap[b]? = some (.cells cur e (0, 0))) (hk : k ≤ 8) (ho : off + k ≤ cur.size) (hn : n < 18446744073709551616) :
    Calls Tryz.prog 160 #[.slice (some ⟨b, off, none⟩) k c, .int .u64 n] w fun x w' => x = .returned (.tuple #[]) ∧ w'.heap[b]? = some (.cells (cut3 cur off (u8s (putF k n))) e (0, 0)) ∧ Ext (· = b) w w' := by
  have H0 : Hid (w.heap[b]? = some (.cells (cut3 cur off (u8s ((putF k n).take 0))) e (0, 0)) ∧ Ext (· = b) w w) := ⟨by rw [hb]; simp [cut3, u8s], Ext.refl _ _⟩
  have HB := Lib.hid (And.intro hb ho)
  have hk2 : (k : Int) ≤ 8 := by omega
  clear hb ho
  go_enter Tryz.func160, Tryz.ntmps160
  go_wp2
  go_loopw [4, 7] (fun _ i wr => ∃ j : Nat, j ≤ k ∧ i = .int .i64 j ∧ Hid (wr.heap[b]? = some (.cells (cut3 cur off (u8s ((putF k n).take j))) e (0, 0)) ∧ Ext (· = b) w wr)) (fun _ i _ => k - (intOf i).toNat)
  case atStart => exact ⟨0, by omega, rfl, H0⟩
  case round =>
    obtain ⟨j, hj, rfl, hin⟩ := hrel
    by_cases hjk : j < k
    · obtain ⟨hsz, hcell, hfz⟩ : (cut3 cur off (u8s ((putF k n).take j))).size = cur.size ∧ (∃ u, wr.cell? ⟨b, off + j, none⟩ = some u) ∧ wr.frozen? ⟨b, off + j, none⟩ = false := by
        have hl : (u8s ((putF k n).take j)).length = j := by simp [u8s]; omega
        have h1 := cut3_size (cur := cur) (off := off) (xs := u8s ((putF k n).take j)) (by have := HB.out.2; omega)
        refine ⟨h1, ?_, free_of_block hin.out.1 _⟩
        rw [cell_of_block hin.out.1]
        exact ⟨_, Array.getElem?_eq_getElem (by have := HB.out.2; omega)⟩
      obtain ⟨u, hcell⟩ := hcell
      have hnew : Hid (∀ v : Value, v = .int .u8 (((putF k n)[j]?.getD 0).toNat : Nat) → (wr.setCell ⟨b, off + j, none⟩ v).heap[b]? = some (.cells (cut3 cur off (u8s ((putF k n).take (j + 1)))) e (0, 0)) ∧ Ext (· = b) w (wr.setCell ⟨b, off + j, none⟩ v)) := by
        rintro v rfl
        have hl : (u8s ((putF k n).take j)).length = j := by simp [u8s]; omega
        refine ⟨?_, hin.out.2.setCell (fun _ => rfl) _⟩
        rw [heap_setCell_at hin.out.1]
        have h2 := cut3_push (cur := cur) (off := off) (xs := u8s ((putF k n).take j)) (.int .u8 (((putF k n)[j]?.getD 0).toNat : Nat)) (by have := HB.out.2; omega)
        rw [hl] at h2
        rw [h2]
        have h3 : (putF k n).take (j + 1) = (putF k n).take j ++ [(putF k n)[j]?.getD 0] := by
          rw [List.take_add_one, List.getElem?_eq_getElem (by simpa using hjk)]
          rfl
        rw [h3]
        simp [u8s, Proofs.YtekolejeliefdaaGreat.u8]
      clear hsz
      go_wp2
      refine ⟨⟨j + 1, by omega, by go_num, hnew.out _ ?_⟩, by simp [intOf]; omega⟩
      have h4 : (putF k n)[j]?.getD 0 = UInt8.ofNat (n / 2 ^ (8 * (k - 1 - j))) := by
        simp [putF, List.getElem?_range hjk]
      rw [h4]
      congr 1
    · obtain rfl : j = k := by omega
      go_wp2
      go_end0
      rw [List.take_of_length_le (by simp)] at hin
      exact ⟨rfl, hin.out⟩

/-- A record in a frame: how long it is, and its bytes. -/
def recF (r : List UInt8) : List UInt8 := putF 4 r.length ++ r
def signF : List UInt8 := [65, 85, 71, 85, 82, 76, 79, 71]
def bodyF (rs : List (List UInt8)) : List UInt8 := rs.flatMap recF
theorem bodyF_le (rs : List (List UInt8)) : ∀ (j : Nat) (r : List UInt8), rs[j]? = some r → (bodyF (rs.take j)).length + 4 + r.length ≤ (bodyF rs).length := by
  intro j r hr
  have h1 : rs = rs.take j ++ r :: rs.drop (j + 1) := by
    obtain ⟨hj, rfl⟩ := List.getElem?_eq_some_iff.1 hr
    rw [← List.drop_eq_getElem_cons hj, List.take_append_drop]
  conv => rhs; rw [h1]
  simp only [bodyF, List.flatMap_append, List.flatMap_cons, List.length_append, recF, putF_length]
  omega
theorem bodyF_take (rs : List (List UInt8)) (j : Nat) (r : List UInt8) (hr : rs[j]? = some r) : bodyF (rs.take (j + 1)) = bodyF (rs.take j) ++ putF 4 r.length ++ r := by
  rw [List.take_add_one, hr]
  simp [bodyF, recF]
/-- A frame's bytes. -/
def frameF (turn next : Nat) (rs : List (List UInt8)) : List UInt8 := signF ++ putF 8 turn ++ putF 8 next ++ putF 8 (bodyF rs).length ++ bodyF rs
/-- Slices of bytes in a row, read. -/
def RecsAt (w : World) (cs : List Value) (rs : List (List UInt8)) : Prop := cs.length = rs.length ∧ ∀ (i : Nat) (v : Value) (r : List UInt8), cs[i]? = some v → rs[i]? = some r → Rd w 5 1 v r.length (u8s r)

theorem cut3_list {cur : Array Value} {off : Nat} {xs p q r : List Value} (h : cur.toList = p ++ q ++ r) (hp : p.length = off) (hq : q.length = xs.length) : (cut3 cur off xs).toList = p ++ xs ++ r := by
  simp only [cut3]
  have e1 : List.take p.length (p ++ q ++ r) = p := by rw [List.append_assoc]; exact List.take_left' rfl
  have e2 : List.drop (p.length + q.length) (p ++ q ++ r) = r := List.drop_left' (by simp)
  rw [h, ← hp, ← hq, e1, e2]
theorem frame_cells {cur : Array Value} {L turn next : Nat} {rs : List (List UInt8)} {xs : List UInt8} (hL : L = 32 + (bodyF rs).length) (hxs : xs = List.replicate 32 0 ++ bodyF rs) (h : cur.toList.take (L * 1) = u8s xs) :
    (cut3 (cut3 (cut3 (cut3 cur 0 (u8s signF)) 8 (u8s (putF 8 turn))) 16 (u8s (putF 8 next))) 24 (u8s (putF 8 (bodyF rs).length))).toList.take (L * 1) = u8s (frameF turn next rs) ∧
      (cut3 (cut3 (cut3 (cut3 cur 0 (u8s signF)) 8 (u8s (putF 8 turn))) 16 (u8s (putF 8 next))) 24 (u8s (putF 8 (bodyF rs).length))).size = cur.size := by
  obtain ⟨z, hz⟩ : ∃ z, u8s (List.replicate 8 0) = z := ⟨_, rfl⟩
  have hzl : z.length = 8 := by rw [← hz]; simp [u8s]
  have h0 : cur.toList = z ++ z ++ z ++ z ++ u8s (bodyF rs) ++ cur.toList.drop (L * 1) := by
    conv => lhs; rw [← List.take_append_drop (L * 1) cur.toList, h, hxs]
    rw [← hz]
    simp only [u8s, List.map_append, ← List.map_append]
    rfl
  generalize cur.toList.drop (L * 1) = t at h0
  have e1 := cut3_list (cur := cur) (off := 0) (xs := u8s signF) (p := []) (q := z) (r := z ++ z ++ z ++ u8s (bodyF rs) ++ t) (by rw [h0]; simp) rfl (by rw [hzl]; rfl)
  have e2 := cut3_list (cur := cut3 cur 0 (u8s signF)) (off := 8) (xs := u8s (putF 8 turn)) (p := u8s signF) (q := z) (r := z ++ z ++ u8s (bodyF rs) ++ t) (by rw [e1]; simp) rfl (by rw [hzl]; simp [u8s])
  have e3 := cut3_list (cur := cut3 (cut3 cur 0 (u8s signF)) 8 (u8s (putF 8 turn))) (off := 16) (xs := u8s (putF 8 next)) (p := u8s signF ++ u8s (putF 8 turn)) (q := z) (r := z ++ u8s (bodyF rs) ++ t) (by rw [e2]; simp) (by simp [u8s, signF]) (by rw [hzl]; simp [u8s])
  have e4 := cut3_list (cur := cut3 (cut3 (cut3 cur 0 (u8s signF)) 8 (u8s (putF 8 turn))) 16 (u8s (putF 8 next))) (off := 24) (xs := u8s (putF 8 (bodyF rs).length)) (p := u8s signF ++ u8s (putF 8 turn) ++ u8s (putF 8 next)) (q := z) (r := u8s (bodyF rs) ++ t) (by rw [e3]; simp) (by simp [u8s, signF]) (by rw [hzl]; simp [u8s])
  constructor
  · rw [e4, hL]
    have e5 : u8s signF ++ u8s (putF 8 turn) ++ u8s (putF 8 next) ++ u8s (putF 8 (bodyF rs).length) ++ (u8s (bodyF rs) ++ t) = u8s (frameF turn next rs) ++ t := by simp [frameF, u8s]
    rw [e5]
    exact List.take_left' (by simp [u8s, frameF, signF]; omega)
  · rw [← Array.length_toList, ← Array.length_toList, e4, h0]
    simp [u8s, signF, hzl]
    omega
theorem copySign {w : World} {g : Nat} {cur : Array Value} (hg : w.heap[g]? = some (.cells cur 5 (0, 0))) (h8 : 8 ≤ cur.size) (n c : Nat) (hn : 8 ≤ n) :
    ∃ W1, (Builtin.copy_ #[114, 9] 3 #[.slice (some ⟨g, 0, none⟩) n c, .string ⟨#[65, 85, 71, 85, 82, 76, 79, 71]⟩]).run Tryz.prog w = .ok (.int .i64 8) W1 ∧ W1.heap[g]? = some (.cells (cut3 cur 0 (u8s signF)) 5 (0, 0)) ∧ Ext (· = g) w W1 := by
  have hcp := Lib.run_copy_row_string (P := Tryz.prog) w 114 9 3 5 g 0 n c ⟨#[65, 85, 71, 85, 82, 76, 79, 71]⟩ cur 5 Tryz.underlying114 (by kernel_rfl) hg (by show 8 ≤ _; omega) (by show 0 + 8 ≤ _; omega)
  refine ⟨_, hcp, ?_, ⟨rfl, rfl, rfl, by simp, fun k hk hn => setRow_other _ _ _ _ hn⟩⟩
  rw [setRow_heap w g cur _ 5 (0, 0) hg]
  rfl
set_option maxRecDepth 100000 in
set_option maxHeartbeats 1000000 in
theorem frame_any {w : World} {v : Value} {n : Nat} {cs : List Value} {rs : List (List UInt8)} (turn next : Nat) (hv : Rd w 114 1 v n cs) (hr : RecsAt w cs rs) (hlen : 32 + (bodyF rs).length ≤ 1073741824)
    (h1 : turn < 18446744073709551616) (h2 : next < 18446744073709551616) :
    Calls Tryz.prog 144 #[.int .u64 turn, .int .u64 next, v] w fun e w' => ∃ u, e = .returned u ∧ w'.ownsRow w.heap.size 5 1 u (32 + (bodyF rs).length) (u8s (frameF turn next rs)) ∧ Below w.heap.size w w' := by
  obtain ⟨a, c, rfl⟩ := hv.form
  have hmk : ∀ W : World, (Instr.makeSlice 114 (.int .i64 32) (.int .i64 32)).run Tryz.prog W = .ok (.slice (some ⟨W.heap.size, 0, none⟩) 32 32) (W.alloc (.cells (madeCells #[.int .u8 0] 32) 5)) :=
    fun W => run_make_row' 114 5 (.int .u8 0) 1 Tryz.underlying114 (by kernel_rfl) rfl .i64 .i64 32 (by omega) (by omega) W
  have hcn : cs.length = n := by have := hv.1; omega
  have hn := hv.2.1
  simp only [maxLen] at hn
  have H := Lib.hid (And.intro hv hr)
  clear hv hr
  have hrow0 : (w.alloc (.cells (madeCells #[.int .u8 0] 32) 5)).ownsRow w.heap.size 5 1 (.slice (some ⟨w.heap.size, 0, none⟩) 32 32) 32 (u8s (List.replicate 32 0)) :=
    ⟨by simp [u8s], .inr ⟨w.heap.size, 32, _, rfl, Nat.le_refl _, heap_alloc_new w _, Nat.le_refl _, by simp [maxLen], by simp [madeCells], by rw [madeCells_one]; rfl⟩⟩
  have H0 := Lib.hid (And.intro hrow0 ((Below.refl w.heap.size w).alloc (Nat.le_refl _) (.cells (madeCells #[.int .u8 0] 32) 5)))
  clear hrow0
  have hbj := Lib.hid (bodyF_le rs)
  go_enter Tryz.func144, Tryz.ntmps144
  go_wp2
  go_loopw [7, 9, 10, 14] (fun bv _ _ i wr => ∃ (j : Nat) (xs : List UInt8), j ≤ n ∧ i = .int .i64 j ∧ Hid (xs = List.replicate 32 0 ++ bodyF (rs.take j) ∧ wr.ownsRow w.heap.size 5 1 bv xs.length (u8s xs) ∧ Below w.heap.size w wr)) (fun _ _ _ i _ => n - (intOf i).toNat)
  case atStart => exact ⟨0, _, by omega, rfl, rfl, H0.out.1, H0.out.2⟩
  case round =>
    obtain ⟨j, xs, hj, rfl, hin⟩ := hrel
    by_cases hjn : j < n
    · obtain ⟨r, hrj⟩ : ∃ r, rs[j]? = some r := ⟨_, List.getElem?_eq_getElem (by have := H.out.2.1; omega)⟩
      obtain ⟨rv, hcj⟩ : ∃ rv, cs[j]? = some rv := ⟨_, List.getElem?_eq_getElem (by omega)⟩
      obtain ⟨b, off, c', e1, _, hc0⟩ := (H.out.1.kept (w1 := wr) (fun b cur fr hb => (hin.out.2.2.block b (lt_of_heap hb)).trans hb)).cell (by omega)
      have hcell := hc0 j (by omega)
      rw [hcj] at hcell
      clear hc0
      simp only [Value.slice.injEq, true_and] at e1
      obtain ⟨rfl, rfl⟩ := e1
      obtain ⟨ra, rc, rfl⟩ := (H.out.2.2 j rv r hcj hrj).form
      have hrd : ∀ W, Below w.heap.size w W → Rd W 5 1 (.slice ra r.length rc) r.length (u8s r) := fun W hW => (H.out.2.2 j _ r hcj hrj).kept (fun b cur fr hb => (hW.block b (lt_of_heap hb)).trans hb)
      have HR := Lib.hid hrd
      have hrj' := Lib.hid hrj
      clear hrd hrj hcj
      have hjr : (bodyF (rs.take j)).length + 4 + r.length ≤ (bodyF rs).length := hbj.out j r hrj'.out
      have hR0 : r.length ≤ 1073741824 := by omega
      obtain ⟨hxs, hown, hbl⟩ := hin.out
      have hxl : xs.length = 32 + (bodyF (rs.take j)).length := by rw [hxs, List.length_append, List.length_replicate]
      have hbl2 := hbl.size
      have hpu := put_any (w := wr.alloc (.cells #[.int .u8 0, .int .u8 0, .int .u8 0, .int .u8 0] 236)) (b := wr.heap.size) (off := 0) (k := 4) (c := 4) (n := r.length) (heap_alloc_new wr _) (by omega) (by simp) (by omega)
      have hput : Calls Tryz.prog 160 #[.slice (some ⟨wr.heap.size, 0, none⟩) 4 4, .int .u64 r.length] (wr.alloc (.cells #[.int .u8 0, .int .u8 0, .int .u8 0, .int .u8 0] 236)) fun x w1 => x = .returned (.tuple #[]) ∧
          Hid (Rd w1 236 1 (.slice (some ⟨wr.heap.size, 0, none⟩) 4 4) 4 (u8s (putF 4 r.length)) ∧ w1.ownsRow w.heap.size 5 1 u7 xs.length (u8s xs) ∧ Below w.heap.size w w1) := by
        refine hpu.mono ?_
        rintro x w1 ⟨rfl, hb1, hx1⟩
        have hx : Ext (fun _ => False) wr w1 := ((Ext.refl (fun _ => False) wr).alloc _).andThen hx1 (by rintro i hi rfl; omega)
        have hk := hx.keepT (e := 5) (fun _ _ _ _ => id)
        refine ⟨rfl, ⟨by simp [u8s], by simp [maxLen], 4, .inr ⟨wr.heap.size, 0, rfl, Nat.le_refl _, .inr ⟨_, (0, 0), hb1, ?_⟩⟩⟩, own_keep hown hk, hbl.trans ⟨hx.os, hx.tape, hx.output, hx.size, fun k hk => hx.block k (by omega) id⟩⟩
        have e4 : (cut3 #[.int .u8 0, .int .u8 0, .int .u8 0, .int .u8 0] 0 (u8s (putF 4 r.length))).toList = u8s (putF 4 r.length) := by simp [cut3, u8s]
        rw [e4, List.drop_zero]
        exact List.take_of_length_le (by simp [u8s])
      have HP := Lib.hid hput
      clear hput hpu hin hbl hown
      go_wp2_with fail
      refine HP.out.mono ?_
      rintro x w1 ⟨rfl, H1⟩
      clear HP
      have hone : ∀ (l : List UInt8), ∀ u ∈ u8s l, u.oneCell' = true := u8s_oneCell
      have HONE := Lib.hid hone
      have hb1 := H1.out.2.2.size
      have hb1' := Lib.hid hb1
      clear hone hb1
      go_wp2_with (first | (at_builtin; refine wpList_app rfl (.tmp 23) (.tmp 24) 114 rfl w.heap.size 5 1 1 (.int .u8 0) Tryz.underlying114 (by kernel_rfl) rfl (by omega) u7 xs.length (u8s xs) rfl H1.out.2.1 _ 4 (u8s (putF 4 r.length)) 236 rfl H1.out.1 (HONE.out _) (by simp only [maxLen]; omega) (by omega) hb1'.out ?_; intro v1 w2 q1 q2 _; have H2 := Lib.hid (And.intro q1 (H1.out.2.2.grown q2 (H1.out.2.2.size) (fun k hk => (H1.out.2.1.lt k hk).1))); clear q1 q2) |
        (at_builtin; refine wpList_app rfl (.tmp 25) (.tmp 26) 114 rfl w.heap.size 5 1 1 (.int .u8 0) Tryz.underlying114 (by kernel_rfl) rfl (by omega) _ (xs.length + 4) (u8s xs ++ u8s (putF 4 r.length)) rfl H2.out.1 _ r.length (u8s r) 5 rfl (HR.out _ H2.out.2) (HONE.out _) (by simp only [maxLen]; omega) (by omega) H2.out.2.size ?_; intro v2 w3 q1 q2 _; have H3 := Lib.hid (And.intro q1 (H2.out.2.grown q2 (H2.out.2.size) (fun k hk => (H2.out.1.lt k hk).1))); clear q1 q2))
      go_roundw
      case rel =>
        refine ⟨j + 1, xs ++ putF 4 r.length ++ r, by omega, by go_num, ?_, ?_, H3.out.2⟩
        · rw [bodyF_take rs j r hrj'.out, hxs]
          simp only [List.append_assoc]
        · have h3 := H3.out.1
          have e1 : (xs ++ putF 4 r.length ++ r).length = xs.length + 4 + r.length := by simp; omega
          rw [e1]
          simp only [u8s, List.map_append] at h3 ⊢
          exact h3
      case measure => simp [intOf]; omega
    · obtain rfl : j = n := by omega
      obtain ⟨hxs, hown, hbl⟩ := hin.out
      rw [List.take_of_length_le (by have := H.out.2.1; omega)] at hxs
      have hxl : xs.length = 32 + (bodyF rs).length := by rw [hxs, List.length_append, List.length_replicate]
      obtain ⟨hvl, ⟨rfl, h0⟩ | ⟨g, cap, cur, rfl, hgb, hgh, k1, k2, k3, k4⟩⟩ := hown
      · omega
      have hcp := copySign (w := wr) hgh (by omega) xs.length cap (by omega)
      obtain ⟨W1, hcp, hg1, hx1⟩ := hcp
      obtain ⟨L, hL⟩ : ∃ L, xs.length = L := ⟨_, rfl⟩
      rw [hL] at hcp k1 k4 ⊢
      have h32 : 32 ≤ L := by omega
      have HX := Lib.hid (And.intro hxs (And.intro hxl (And.intro hL k4)))
      have HW := Lib.hid (And.intro hg1 (And.intro hx1 (And.intro hgh (And.intro hgb hbl))))
      clear hxs hxl hL k4 hg1 hx1 hin hvl hgh hgb hbl
      have hc32 : 32 ≤ cap := by omega
      have hput : ∀ (W : World) (o nn : Nat) (cu : Array Value), nn < 18446744073709551616 → o + 8 ≤ cu.size → Hid (W.heap[g]? = some (.cells cu 5 (0, 0))) → Calls Tryz.prog 160 #[.slice (some ⟨g, o, none⟩) 8 (cap - o), .int .u64 nn] W fun e W' => e = .returned (.tuple #[]) ∧ Hid (W'.heap[g]? = some (.cells (cut3 cu o (u8s (putF 8 nn))) 5 (0, 0)) ∧ Ext (· = g) W W') := by
        intro W o nn cu h1 h2 h3
        exact put_any h3 (by omega) h2 h1
      have HPUT := Lib.hid hput
      have hs1 : (cut3 cur 0 (u8s signF)).size = cur.size := cut3_size (by simp [u8s, signF]; omega)
      have hs2 : (cut3 (cut3 cur 0 (u8s signF)) 8 (u8s (putF 8 turn))).size = cur.size := by rw [cut3_size (by rw [hs1]; simp [u8s]; omega), hs1]
      have hs3 : (cut3 (cut3 (cut3 cur 0 (u8s signF)) 8 (u8s (putF 8 turn))) 16 (u8s (putF 8 next))).size = cur.size := by rw [cut3_size (by rw [hs2]; simp [u8s]; omega), hs2]
      have HS := Lib.hid (And.intro hs1 (And.intro hs2 hs3))
      have HC := Lib.hid (And.intro k1 (And.intro k2 k3))
      have hbL : L = 32 + (bodyF rs).length := by have := HX.out.2; omega
      have hb0 : ((L : Int) - 32) = ((bodyF rs).length : Int) := by omega
      have HB := Lib.hid hbL
      clear hput hs1 hs2 hs3 k1 k2 k3 hbL
      go_wp2_with fail
      refine (HPUT.out W1 8 turn _ h1 (by rw [HS.out.1]; have := HC.out.2.2; omega) HW.out.1).mono ?_
      rintro e W2 ⟨rfl, H2⟩
      go_wp2_with fail
      refine (HPUT.out W2 16 next _ h2 (by rw [HS.out.2.1]; have := HC.out.2.2; omega) H2.out.1).mono ?_
      rintro e W3 ⟨rfl, H3⟩
      go_wp2_with fail
      refine (HPUT.out W3 24 (bodyF rs).length _ (by omega) (by rw [HS.out.2.2]; have := HC.out.2.2; omega) H3.out.1).mono ?_
      rintro e W4 ⟨rfl, H4⟩
      go_wp2
      go_ret
      obtain ⟨hf1, hf2⟩ := frame_cells (cur := cur) (turn := turn) (next := next) HB.out HX.out.1 HX.out.2.2.2
      refine ⟨_, rfl, ⟨by simp [u8s, frameF, signF]; omega, .inr ⟨g, cap, _, (by show Value.slice _ L cap = _; rw [HB.out]), HW.out.2.2.2.1, H4.out.1, by rw [← HB.out]; exact HC.out.1, HC.out.2.1, by rw [hf2]; exact HC.out.2.2, by rw [← HB.out]; exact hf1⟩⟩, ?_⟩
      have hx : Ext (· = g) wr W4 := ((HW.out.2.1.trans H2.out.2).trans H3.out.2).trans H4.out.2
      exact HW.out.2.2.2.2.trans (hx.below (fun k hk e => by have := HW.out.2.2.2.1; omega) HW.out.2.2.2.2.size)
end Go.Proofs.YtekolejeliefdaaGreat
