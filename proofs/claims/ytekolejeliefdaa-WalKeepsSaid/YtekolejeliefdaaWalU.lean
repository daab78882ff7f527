/- The log's statements: the records that they make. -/
import Derived.Test.YtekolejeliefdaaWalT
set_option linter.unusedVariables false
set_option linter.unusedSimpArgs false
namespace Go.Proofs.Ytekolejeliefdaa
open Go.RowKit

theorem cut3_full {m : Nat} {z : Value} {xs : List Value} (h : xs.length = m) : (cut3 (madeCells #[z] m) 0 xs).toList = xs := by
  have h1 : (madeCells #[z] m).toList.length = m := by rw [madeCells_one]; simp
  unfold cut3
  simp only [List.take_zero, List.nil_append, Nat.zero_add]
  rw [List.drop_of_length_le (by omega), List.append_nil]
/-- Bytes that are read, wherever they lie. -/
def BytesIn (w : World) (v : Value) (n : Nat) (L : List UInt8) : Prop :=
  L.length = n ∧ n ≤ maxLen ∧ ∃ a c, v = .slice a n c ∧ (n = 0 ∨ ∃ x, a = some x ∧ x.block < w.heap.size ∧ ∀ (j : Nat) (X : UInt8), L[j]? = some X → w.cell? (x.add j) = some (u8 X))
theorem Rd.bytesIn {w : World} {v : Value} {n : Nat} {L : List UInt8} (h : Rd w 5 1 v n (u8s L)) : BytesIn w v n L := by
  have hL : L.length = n := by have := h.1; simpa [u8s] using this
  obtain ⟨va, vc, rfl⟩ := h.form
  refine ⟨hL, h.2.1, va, vc, rfl, ?_⟩
  by_cases h0 : n = 0
  · exact .inl h0
  · obtain ⟨b, off, c, e1, hb, hc⟩ := h.cell (by omega)
    simp only [Value.slice.injEq, true_and] at e1
    obtain ⟨rfl, rfl⟩ := e1
    refine .inr ⟨_, rfl, hb, fun j X hX => h.news j _ ?_⟩
    rw [u8s, List.getElem?_map, hX]
    rfl
theorem add_block (x : Addr) (j : Nat) : (x.add j).block = x.block := by
  unfold Addr.add
  split <;> rfl
theorem BytesIn.below {w w' : World} {v : Value} {n : Nat} {L : List UInt8} (h : BytesIn w v n L) (hb : Below w.heap.size w w') : BytesIn w' v n L := by
  obtain ⟨h1, h2, a, c, rfl, h3⟩ := h
  refine ⟨h1, h2, a, c, rfl, ?_⟩
  rcases h3 with h3 | ⟨x, rfl, hx, h3⟩
  · exact .inl h3
  · refine .inr ⟨x, rfl, Nat.lt_of_lt_of_le hx hb.size, fun j X hX => ?_⟩
    rw [hb.cell (p := x.add j) (by rw [add_block]; exact hx)]
    exact h3 j X hX
theorem wf_u8 {z : Int} (h : (Lit.int .u8 z).wf = true) : 0 ≤ z ∧ z ≤ 255 := by
  simp only [Lit.wf, Bool.and_eq_true, decide_eq_true_eq] at h
  exact h
theorem wf_u16 {z : Int} (h : (Lit.int .u16 z).wf = true) : 0 ≤ z ∧ z ≤ 65535 := by
  simp only [Lit.wf, Bool.and_eq_true, decide_eq_true_eq] at h
  exact h
theorem wf_u64 {z : Int} (h : (Lit.int .u64 z).wf = true) : 0 ≤ z ∧ z ≤ 18446744073709551615 := by
  simp only [Lit.wf, Bool.and_eq_true, decide_eq_true_eq] at h
  exact h
/-- A slice of bytes that came in, as the rows tell it. -/
theorem bytes_row {w : World} {a : Option Addr} {len cap : Nat} {zs : List Int} (h : (a = none ∧ len = 0 ∧ cap = 0 ∧ zs = []) ∨
    ∃ x, a = some x ∧ len ≤ cap ∧ cap ≤ maxLen ∧ zs.length = cap ∧ (∀ i, i < zs.length → w.cell? (x.add i) = some (.int .u8 (zs.getD i 0))) ∧ ∀ n ∈ zs, (Lit.int .u8 n).wf = true) :
    ∃ L, BytesIn w (.slice a len cap) len L := by
  rcases h with ⟨rfl, rfl, rfl, rfl⟩ | ⟨x, rfl, h1, h2, h3, h4, h5⟩
  · exact ⟨[], rfl, Nat.zero_le _, none, 0, rfl, .inl rfl⟩
  · refine ⟨(zs.take len).map fun z => UInt8.ofNat z.toNat, by simp; omega, by omega, _, cap, rfl, ?_⟩
    by_cases h0 : len = 0
    · exact .inl h0
    · have hlt : (x.add 0).block < w.heap.size := by
        have := h4 0 (by omega)
        rcases Nat.lt_or_ge (x.add 0).block w.heap.size with h' | h'
        · exact h'
        · simp [World.cell?, Array.getElem?_eq_none h'] at this
      rw [add_block] at hlt
      refine .inr ⟨x, rfl, hlt, fun j X hX => ?_⟩
      rw [List.getElem?_map] at hX
      obtain ⟨z, hz, rfl⟩ := Option.map_eq_some_iff.1 hX
      have hj := (List.getElem?_eq_some_iff.1 hz).1
      rw [List.length_take] at hj
      rw [List.getElem?_take_of_lt (by omega)] at hz
      have hz2 := h4 j (by omega)
      rw [List.getD_eq_getElem?_getD, hz, Option.getD_some] at hz2
      rw [hz2]
      have hw := h5 z (List.mem_of_getElem? hz)
      have hb := wf_u8 hw
      unfold u8
      congr 3
      simp
      omega
theorem BytesIn.form {w : World} {v : Value} {n : Nat} {L : List UInt8} (h : BytesIn w v n L) : ∃ a c, v = .slice a n c := by
  obtain ⟨_, _, a, c, h, _⟩ := h
  exact ⟨a, c, h⟩
section
variable {w : World}
set_option maxRecDepth 100000 in
set_option maxHeartbeats 2000000 in
theorem batch_any {v : Value} {n : Nat} {L : List UInt8} (i : Nat) (hi : i ≤ 1000) (hv : BytesIn w v n L) (hn : n ≤ 1000) :
    Calls Try.prog 29 #[.int .i64 i, v] w fun e w' => ∃ v' cs, e = .returned v' ∧ w'.ownsRow w.heap.size 33 1 v' n cs ∧ RecsAt w' cs (batchF i L) ∧ Below w.heap.size w w' := by
  have hL : L.length = n := hv.1
  obtain ⟨va, vc, rfl⟩ := hv.form
  have HV := Lib.hid (And.intro hv hL)
  clear hv hL
  go_enter Try.func29, Try.ntmps29
  go_wp2_with fail
  go_loopw [5, 6] (fun ov kv wr => ∃ k : Nat, k ≤ n ∧ kv = .int .i64 k ∧ Hid (∃ cs, wr.ownsRow w.heap.size 33 1 ov k cs ∧ RecsAt wr cs ((batchF i L).take k) ∧ Below w.heap.size w wr)) (fun _ kv _ => n - (intOf kv).toNat)
  case atStart => exact ⟨0, Nat.zero_le _, rfl, [], ⟨rfl, .inl ⟨rfl, rfl⟩⟩, ⟨by simp, by intro i v r q; simp at q⟩, Below.refl _ _⟩
  case round =>
    obtain ⟨k, hk, rfl, hin⟩ := hrel
    obtain ⟨cs, ho, hra, hb⟩ := hin.out
    by_cases hlt : k < n
    · obtain ⟨wo, rfl⟩ : ∃ wo : World, wo = wr := ⟨_, rfl⟩
      obtain ⟨hv, hL⟩ := HV.out
      obtain ⟨_, _, a, c, e1, hc⟩ := hv
      simp only [Value.slice.injEq, true_and] at e1
      obtain ⟨rfl, rfl⟩ := e1
      obtain ⟨x, rfl, hbl, hc⟩ := hc.resolve_left (by omega)
      have d := hc k _ (List.getElem?_eq_getElem (by omega))
      have d2 := (hb.cell (p := x.add k) (by rw [add_block]; exact hbl)).trans d
      obtain ⟨Z, hZ⟩ : ∃ Z, (L[k]'(by omega)).toNat = Z := ⟨_, rfl⟩
      have hZg : (L.getD k 0).toNat = Z := by rw [List.getD_eq_getElem?_getD, List.getElem?_eq_getElem (by omega)]; exact hZ
      have hZ2 : Z ≤ 255 := by have := (L[k]'(by omega)).toNat_lt; omega
      unfold Proofs.Ytekolejeliefdaa.u8 at d2
      rw [hZ] at d2
      have hmk : ∀ W : World, (Instr.makeSlice 33 (.int .i64 (Z : Int)) (.int .i64 (Z : Int))).run Try.prog W = .ok (.slice (some ⟨W.heap.size, 0, none⟩) Z Z) (W.alloc (.cells (madeCells #[.int .u8 0] Z) 5)) :=
        fun W => run_make_row' 33 5 (.int .u8 0) 1 Try.underlying33 (by kernel_rfl) rfl .i64 .i64 Z (by omega) (by omega) W
      have hstart : Hid (((wo.alloc (.cells (madeCells #[.int .u8 0] Z) 5)).heap[wo.heap.size]? = some (.cells (cut3 (madeCells #[.int .u8 0] Z) 0 (u8s (batchR i k 0))) 5 (0, 0))) ∧ Ext (fun _ => False) wo (wo.alloc (.cells (madeCells #[.int .u8 0] Z) 5))) := by
        refine ⟨?_, (Ext.refl _ wo).alloc _⟩
        have : u8s (batchR i k 0) = [] := rfl
        rw [this, cut3_nil]
        exact heap_alloc_new wo _
      have HIN := Lib.hid (And.intro ho (And.intro hra (And.intro hb (And.intro hZg hL))))
      clear hin ho hra hb hZg hL hc d hZ
      go_wp2_with fail
      go_loopw [8] (fun jv wr => ∃ j : Nat, j ≤ Z ∧ jv = .int .i64 j ∧ Hid ((wr.heap[wo.heap.size]? = some (.cells (cut3 (madeCells #[.int .u8 0] Z) 0 (u8s (batchR i k j))) 5 (0, 0))) ∧ Ext (fun _ => False) wo wr)) (fun jv _ => Z - (intOf jv).toNat)
      case atStart => exact ⟨0, Nat.zero_le _, rfl, hstart⟩
      case round =>
        obtain ⟨j, hj, rfl, hin⟩ := hrel
        have hsz : (madeCells #[.int .u8 0] Z).size = Z := by simp [size_madeCells]
        have hbl : (u8s (batchR i k j)).length = j := by rw [u8s_length, batchR_length]
        by_cases hjl : j < Z
        · have hcell := cell_of_block hin.out.1 j
          have hfree := free_of_block hin.out.1 j
          rw [Array.getElem?_eq_getElem (by rw [cut3_size (by rw [hbl, hsz]; omega), hsz]; exact hjl)] at hcell
          obtain ⟨x0, hx0⟩ : ∃ x, (cut3 (madeCells #[.int .u8 0] Z) 0 (u8s (batchR i k j)))[j]'(by rw [cut3_size (by rw [hbl, hsz]; omega), hsz]; exact hjl) = x := ⟨_, rfl⟩
          rw [hx0] at hcell
          have hpush := cut3_push (cur := madeCells #[.int .u8 0] Z) (off := 0) (xs := u8s (batchR i k j)) (Proofs.Ytekolejeliefdaa.u8 (UInt8.ofNat (31 * i + 7 * k + j))) (by rw [hbl, hsz]; omega)
          rw [hbl, Nat.zero_add] at hpush
          have hsn : u8s (batchR i k j) ++ [Proofs.Ytekolejeliefdaa.u8 (UInt8.ofNat (31 * i + 7 * k + j))] = u8s (batchR i k (j + 1)) := by rw [batchR_snoc]; simp [u8s]
          rw [hsn] at hpush
          have hval : (UInt8.ofNat (31 * i + 7 * k + j)).toNat = (31 * i + 7 * k + j) % 256 := by simp
          have H := Lib.hid (And.intro hin.out (And.intro hpush hval))
          clear hin hx0 hpush hsn hval hbl hsz hstart
          go_wp2_with fail
          obtain ⟨⟨h1, h2⟩, hpush, hval⟩ := H.out
          have h3 := heap_setCell_at (i := j) h1 (.int .u8 ((31 * (i : Int) + 7 * (k : Int) + (j : Int)) % 256))
          have hu : Proofs.Ytekolejeliefdaa.u8 (UInt8.ofNat (31 * i + 7 * k + j)) = .int .u8 ((31 * (i : Int) + 7 * (k : Int) + (j : Int)) % 256) := by
            unfold Proofs.Ytekolejeliefdaa.u8
            rw [hval]
            congr 1
          rw [hu] at hpush
          rw [hpush] at h3
          refine ⟨⟨j + 1, by omega, by go_num, h3, h2.setCell (fun h => absurd h (by simp)) _⟩, by simp [intOf]; omega⟩
        · obtain rfl : j = Z := by omega
          have hx2 := hin.out.2
          have hrd : Rd wr 5 1 (.slice (some ⟨wo.heap.size, 0, none⟩) j j) j (u8s (batchR i k j)) := by
            refine ⟨by rw [hbl]; omega, by simp only [maxLen]; omega, j, .inr ⟨_, 0, rfl, Nat.le_refl _, .inr ⟨_, (0, 0), hin.out.1, ?_⟩⟩⟩
            rw [cut3_full hbl, List.drop_zero, List.take_of_length_le (by omega)]
          have hx3 : Ext (fun _ => False) wr (wr.alloc (.cells #[.slice (some ⟨wo.heap.size, 0, none⟩) j j] 33)) := (Ext.refl _ wr).alloc _
          have hx4 := hx2.trans hx3
          obtain ⟨ho, hra, hb, hZg, hL⟩ := HIN.out
          have HO := Lib.hid (own_keep ho (hx4.keepT (fun _ _ _ _ => id)))
          have HN := Lib.hid (Rd.one wr (.slice (some ⟨wo.heap.size, 0, none⟩) j j) 33)
          have hbz : w.heap.size ≤ (wr.alloc (.cells #[.slice (some ⟨wo.heap.size, 0, none⟩) j j] 33)).heap.size := Nat.le_trans hb.size hx4.size
          have HBZ := Lib.hid hbz
          have HRD := Lib.hid (And.intro hrd (And.intro hx2 hx4))
          clear hin hx2 hrd hx3 hx4 hbl hsz hstart ho hra hb hZg hL hbz
          go_wp2_with (at_builtin; refine wpList_app rfl (.tmp 38) (.tmp 40) 26 rfl w.heap.size 33 1 24 (.slice none 0 0) Try.underlying26 (by kernel_rfl) rfl (by omega) u5 k cs rfl HO.out _ 1 [.slice (some ⟨wo.heap.size, 0, none⟩) j j] 33 rfl HN.out (by intro u hu; rw [List.mem_singleton.1 hu]; rfl) (by simp only [maxLen]; omega) (by omega) HBZ.out ?_; intro v7 w4 o1 o2 _)
          have hk := grown_keepT (e' := 5) HO.out o2 (by decide)
          have hk1 : KeepT 5 wr w4 := (((Ext.refl (fun _ => False) wr).alloc _).keepT (fun _ _ _ _ => id)).trans hk
          obtain ⟨ho, hra, hb, hZg, hL⟩ := HIN.out
          obtain ⟨hrd, hx2, hx4⟩ := HRD.out
          have hk2 : KeepT 5 wo w4 := (hx2.keepT (fun _ _ _ _ => id)).trans hk1
          have hb4 : Below w.heap.size w w4 := (hb.trans ((hx4.below (fun _ _ h => h) (Nat.le_refl _)).mono hb.size)).grown o2 HBZ.out (fun k hk => (HO.out.lt k hk).1)
          refine ⟨⟨k + 1, by omega, by go_num, cs ++ [.slice (some ⟨wo.heap.size, 0, none⟩) j j], o1, ?_, hb4⟩, by simp [intOf]; omega⟩
          rw [batchF_take i L k (by omega), hZg]
          refine (hra.kept hk2).snoc ?_
          rw [batchR_length]
          exact hrd.kept hk1
    · obtain rfl : k = n := by omega
      have HX := Lib.hid (And.intro ho (And.intro hra hb))
      clear hin ho hra hb
      go_wp2_with fail
      go_ret
      obtain ⟨ho, hra, hb⟩ := HX.out
      rw [List.take_of_length_le (by rw [batchF_length, HV.out.2]; exact Nat.le_refl _)] at hra
      exact ⟨_, cs, rfl, ho, hra, hb⟩
end
end Go.Proofs.Ytekolejeliefdaa
