/- The law WalForeign. -/
import Derived.Test.YtekolejeliefdaaWalX
set_option linter.unusedVariables false
set_option linter.unusedSimpArgs false
namespace Go.Proofs.Ytekolejeliefdaa
open Go.RowKit

theorem chainF_no {s : DS} {t : Nat} {x : Int} : ∀ (f a n : Nat), chainF s t f a n = .error x → x ≠ 0
  | 0, a, n, h => by cases h
  | f + 1, a, n, h => by
    rw [chainF] at h
    split at h
    · split at h
      · cases h
      · cases h
        assumption
    · split at h
      · rename_i y hy
        cases h
        exact chainF_no f _ _ hy
      · cases h
theorem recoverF_no {s : DS} {x : Int} (h : recoverF s = .error x) : x ≠ 0 := by
  unfold recoverF at h
  split at h
  · cases h
    decide
  · split at h
    · rename_i y hy
      cases h
      exact beginF_no hy
    · split at h
      · rename_i y hy
        cases h
        exact chainF_no _ _ _ hy
      · cases h
/-- What opening a disk tells: a log, or an error and no records. -/
theorem open_told {w0 w : World} {p g m : Nat} {s : DS} (h : Dsk w0 w p g m s) : Calls Try.prog 27 #[.pointer (some ⟨p, 0, none⟩)] w fun e w' =>
    ((∃ lp va n vc, e = .returned (.tuple #[.pointer (some ⟨lp, 0, none⟩), .slice va n vc, .int .i64 0])) ∨ ∃ x, x ≠ 0 ∧ e = .returned (.tuple #[.pointer none, .slice none 0 0, .int .i64 x])) ∧ Hid (Below w0.heap.size w0 w') := by
  refine (opened_any h.disk).mono ?_
  rintro e w' ⟨hp, hb⟩
  refine ⟨?_, h.below.trans (hb.mono h.below.size)⟩
  cases hr : recoverF s with
  | ok r =>
    rw [hr] at hp
    obtain ⟨lp, um, v, cs, rfl, _, _, _, h1, _⟩ := hp
    obtain ⟨va, vc, rfl⟩ := (Rd.of_own h1).form
    exact .inl ⟨_, _, _, _, rfl⟩
  | error x =>
    rw [hr] at hp
    exact .inr ⟨x, recoverF_no hr, hp⟩
/-- Numbers of a kind that are read, wherever they lie. -/
def IntsIn (k : IntKind) (w : World) (v : Value) (n : Nat) (zs : List Int) : Prop :=
  zs.length = n ∧ n ≤ maxLen ∧ ∃ a c, v = .slice a n c ∧ (n = 0 ∨ ∃ x, a = some x ∧ x.block < w.heap.size ∧ ∀ (j : Nat) (z : Int), zs[j]? = some z → w.cell? (x.add j) = some (.int k z) ∧ (Lit.int k z).wf = true)
theorem ints_row {k : IntKind} {w : World} {a : Option Addr} {len cap : Nat} {zs : List Int} (h : (a = none ∧ len = 0 ∧ cap = 0 ∧ zs = []) ∨
    ∃ x, a = some x ∧ len ≤ cap ∧ cap ≤ maxLen ∧ zs.length = cap ∧ (∀ i, i < zs.length → w.cell? (x.add i) = some (.int k (zs.getD i 0))) ∧ ∀ n ∈ zs, (Lit.int k n).wf = true) :
    ∃ L, IntsIn k w (.slice a len cap) len L := by
  rcases h with ⟨rfl, rfl, rfl, rfl⟩ | ⟨x, rfl, h1, h2, h3, h4, h5⟩
  · exact ⟨[], rfl, Nat.zero_le _, none, 0, rfl, .inl rfl⟩
  · refine ⟨zs.take len, by simp; omega, by omega, _, cap, rfl, ?_⟩
    by_cases h0 : len = 0
    · exact .inl h0
    · have hlt : (x.add 0).block < w.heap.size := by
        have := h4 0 (by omega)
        rcases Nat.lt_or_ge (x.add 0).block w.heap.size with h' | h'
        · exact h'
        · simp [World.cell?, Array.getElem?_eq_none h'] at this
      rw [add_block] at hlt
      refine .inr ⟨x, rfl, hlt, fun j z hz => ?_⟩
      have hj := (List.getElem?_eq_some_iff.1 hz).1
      rw [List.length_take] at hj
      rw [List.getElem?_take_of_lt (by omega)] at hz
      have hz2 := h4 j (by omega)
      rw [List.getD_eq_getElem?_getD, hz, Option.getD_some] at hz2
      exact ⟨hz2, h5 z (List.mem_of_getElem? hz)⟩
theorem IntsIn.below {k : IntKind} {w w' : World} {v : Value} {n : Nat} {L : List Int} (h : IntsIn k w v n L) (hb : Below w.heap.size w w') : IntsIn k w' v n L := by
  obtain ⟨h1, h2, a, c, rfl, h3⟩ := h
  refine ⟨h1, h2, a, c, rfl, ?_⟩
  rcases h3 with h3 | ⟨x, rfl, hx, h3⟩
  · exact .inl h3
  · refine .inr ⟨x, rfl, Nat.lt_of_lt_of_le hx hb.size, fun j X hX => ?_⟩
    rw [hb.cell (p := x.add j) (by rw [add_block]; exact hx)]
    exact h3 j X hX
theorem IntsIn.form {k : IntKind} {w : World} {v : Value} {n : Nat} {L : List Int} (h : IntsIn k w v n L) : ∃ a c, v = .slice a n c := by
  obtain ⟨_, _, a, c, h, _⟩ := h
  exact ⟨a, c, h⟩
theorem IntsIn.at_ {k : IntKind} {w : World} {a : Option Addr} {n c : Nat} {L : List Int} (h : IntsIn k w (.slice a n c) n L) {j : Nat} (hj : j < n) : ∃ x z, a = some x ∧ x.block < w.heap.size ∧ w.cell? (x.add j) = some (.int k z) ∧ (Lit.int k z).wf = true := by
  obtain ⟨h1, h2, a', c', e, h3⟩ := h
  simp only [Value.slice.injEq, true_and] at e
  obtain ⟨rfl, rfl⟩ := e
  obtain ⟨x, rfl, hx, h4⟩ := h3.resolve_left (by omega)
  obtain ⟨h5, h6⟩ := h4 j _ (List.getElem?_eq_getElem (by omega))
  exact ⟨x, _, rfl, hx, h5, h6⟩
/-- While the law turns bytes: a disk with power, of 60 sectors. -/
def ForeignState (w0 w : World) (p g m : Nat) : Prop := ∃ s, Dsk w0 w p g m s ∧ Live s ∧ s.size = 256 ∧ s.sure.length = 60
theorem last_len {s : DS} (h : s.Ok) {i : Nat} (hi : i < s.sure.length) : (s.last i).length = s.size := by
  unfold DS.last
  cases hd : dget s.dirty i with
  | some x => exact (h.dz _ (dget_mem hd)).2
  | none =>
    rw [Option.getD_none, List.getD_eq_getElem?_getD, List.getElem?_eq_getElem hi]
    exact h.sz _ (List.getElem_mem _)
theorem place_nn (k n : Int) (hk0 : 0 ≤ k) (hn : 0 < n) (hk : k ≤ 1000000) (hn2 : n ≤ 1000000) (w : World) : Calls Try.prog 19 #[.int .i64 k, .int .i64 n] w fun e w' => e = .returned (.int .i64 (k % n)) ∧ w = w' := by
  have hz : (n == 0) = false := by simp; omega
  have hz2 : ¬ n = 0 := by omega
  have hz3 : ¬ n = -1 := by omega
  obtain ⟨q, hq⟩ : ∃ q, k % n = q := ⟨_, rfl⟩
  have hq1 : k.tmod n = q := by rw [Int.tmod_eq_emod_of_nonneg (by omega), ← hq]
  have hq3 : 0 ≤ q := by rw [← hq]; exact Int.emod_nonneg _ (by omega)
  rw [hq]
  clear hq
  go_enter Try.func19, Try.ntmps19
  go_wp2
  go_ret
  exact ⟨rfl, rfl⟩
/-- A sector is read; one of its bytes turned, it is written back. -/
theorem foreign_read {w0 w : World} {p g m : Nat} (h : ForeignState w0 w p g m) (i : Nat) (hi : i < 60) : Calls Try.prog 17 #[.pointer (some ⟨p, 0, none⟩), .int .i64 i] w fun e w' =>
    ∃ b c cur, e = .returned (.tuple #[.slice (some ⟨b, 0, none⟩) 256 c, .int .i64 0]) ∧ Hid (Below w.heap.size w w' ∧ w'.heap[b]? = some (.cells cur 5 (0, 0)) ∧ (∀ r, r < 256 → ∃ y : Int, cur[r]? = some (.int .u8 y) ∧ 0 ≤ y ∧ y ≤ 255) ∧
      ∀ (w2 : World) (r : Nat) (Z : Int), r < 256 → 0 ≤ Z → Z ≤ 255 → Ext (· = b) w' w2 → w2.heap[b]? = some (.cells (cur.setIfInBounds r (.int .u8 Z)) 5 (0, 0)) →
        Calls Try.prog 16 #[.pointer (some ⟨p, 0, none⟩), .int .i64 i, .slice (some ⟨b, 0, none⟩) 256 c] w2 fun e w3 => ∃ x, e = .returned (.int .i64 x) ∧ Hid (ForeignState w0 w3 p g m)) := by
  obtain ⟨s, hd, hl, hz, hn⟩ := h
  have hi' : i < s.sure.length := by omega
  refine (read_any hd.disk (i : Int)).mono ?_
  rintro e w' ⟨v, rfl, ho, hb⟩
  have hat := hl.at_ hi'
  have hll := last_len hl.ok hi'
  have hrd : s.read (i : Int) = s.last i := by unfold DS.read; rw [if_pos hat, Int.toNat_natCast]
  rw [hrd, hll, hz] at ho
  rw [hz] at hll
  rw [hat]
  obtain ⟨xs, hxs⟩ : ∃ xs, s.last i = xs := ⟨_, rfl⟩
  rw [hxs] at ho hll
  obtain ⟨_, ⟨_, h0⟩ | ⟨b, c, cur, rfl, hbb, hcur, h1, h2, h3, h4⟩⟩ := ho
  · omega
  have hx : Ext (fun _ => False) w w' := Ext.of_below hb (Nat.le_refl _)
  have hbl := lt_of_heap hcur
  have hsz := hb.size
  have h40 : cur.toList.take 256 = u8s xs := by simpa using h4
  refine ⟨b, c, cur, rfl, hb, hcur, ?_, ?_⟩
  · intro r hr
    have e1 : cur[r]? = (u8s xs)[r]? := by rw [← h40, List.getElem?_take_of_lt hr, Array.getElem?_toList]
    rw [e1, u8s, List.getElem?_map, List.getElem?_eq_getElem (by omega)]
    refine ⟨_, rfl, by omega, ?_⟩
    have := (xs[r]'(by omega)).toNat_lt
    omega
  · intro w2 r Z hr hZ0 hZ1 hx2 hcur2
    have hd1 : DiskAt (fun k => k < w0.heap.size ∨ k = b) w' p g m s := hd.disk.more hx (fun k hk => by rcases hk with hk | hk <;> omega) (fun k hk => by have := hd.below.size; rcases hk with hk | hk <;> omega)
    have hd2 : DiskAt (fun k => k < w0.heap.size ∨ k = b) w2 p g m s := hd1.wrote hx2 (fun k hk => .inr hk)
    have hrd2 : Rd w2 5 1 (.slice (some ⟨b, 0, none⟩) 256 c) 256 (u8s (xs.set r (UInt8.ofNat Z.toNat))) := by
      refine ⟨by rw [u8s_length, List.length_set]; omega, by simp only [maxLen]; omega, c, .inr ⟨b, 0, rfl, by omega, .inr ⟨_, (0, 0), hcur2, ?_⟩⟩⟩
      rw [List.drop_zero, Array.toList_setIfInBounds, List.take_set, Nat.mul_one, h40]
      unfold u8s
      rw [List.map_set]
      congr 1
      unfold u8
      congr 1
      simp
      omega
    refine (write_any hd2 (i : Int) hrd2).mono ?_
    rintro e w3 ⟨rfl, hd3, hx3⟩
    obtain ⟨e2, hl2⟩ := hl.write (i := i) (b := xs.set r (UInt8.ofNat Z.toNat)) hi' (by rw [List.length_set]; omega)
    rw [e2] at hd3 ⊢
    refine ⟨_, rfl, _, ⟨hd3.more (Ext.refl _ _) (fun k hk => .inl (.inl hk)) (fun k hk => ?_), hd.new, ?_⟩, hl2, hz, hn⟩
    · have := hd.below.size
      have := hx2.size
      have := hx3.size
      omega
    · have hnw := hd.new
      refine (hd.below.trans (hb.mono hd.below.size)).trans ((hx2.below (B := w0.heap.size) (fun k hk q => ?_) ?_).trans (hx3.below (B := w0.heap.size) (fun k hk q => ?_) ?_))
      · have := hd.below.size
        omega
      · have := hd.below.size
        omega
      · rcases q with q | q <;> omega
      · have := hd.below.size
        have := hx2.size
        omega
theorem new60' : (DS.new 60 256).sure.length = 60 ∧ (DS.new 60 256).size = 256 := new60
set_option maxRecDepth 100000 in
set_option maxHeartbeats 4000000 in
theorem foreign_law (va vx vl : Value) (na nx nl : Nat) (A X : List Int) (L : List UInt8) (w : World) (hva : IntsIn .u16 w va na A) (hvx : IntsIn .u8 w vx nx X) (hvl : BytesIn w vl nl L) :
    Calls Try.prog 8 #[va, vx, vl] w fun e w' => e = .returned (.bool true) ∧ Below w.heap.size w w' := by
  have hL : L.length = nl := hvl.1
  obtain ⟨aa, ca, rfl⟩ := hva.form
  obtain ⟨ax, cx, rfl⟩ := hvx.form
  obtain ⟨al, cl, rfl⟩ := hvl.form
  have hma := hva.2.1
  have hmx := hvx.2.1
  have hml := hvl.2.1
  unfold maxLen at hma hmx hml
  have HK := Lib.hid (known4 w)
  by_cases hg : 30 < na ∨ nx < na ∨ 6 < nl
  · clear hva hvx hvl hL
    by_cases h1 : 30 < na
    · have h1' : (30 : Int) < (na : Int) := by omega
      go_enter Try.func8, Try.ntmps8
      go_wp2_with (go_at_call 26; refine HK.out.mono ?_; rintro e w1 ⟨rfl, hb1⟩)
      go_ret
      exact ⟨rfl, hb1⟩
    · have h1' : (na : Int) ≤ 30 := by omega
      by_cases h2 : nx < na
      · have h2' : decide (nx < na) = true := by simpa using h2
        go_enter Try.func8, Try.ntmps8
        go_wp2_with (go_at_call 26; refine HK.out.mono ?_; rintro e w1 ⟨rfl, hb1⟩)
        go_ret
        exact ⟨rfl, hb1⟩
      · have h2' : decide (nx < na) = false := by simpa using h2
        have h3' : (6 : Int) < (nl : Int) := by omega
        go_enter Try.func8, Try.ntmps8
        go_wp2_with (go_at_call 26; refine HK.out.mono ?_; rintro e w1 ⟨rfl, hb1⟩)
        go_ret
        exact ⟨rfl, hb1⟩
  · have h1' : (na : Int) ≤ 30 := by omega
    have h2' : decide (nx < na) = false := by simp; omega
    have h3' : (nl : Int) ≤ 6 := by omega
    have hnx : na ≤ nx := by omega
    have HV := Lib.hid (And.intro hva (And.intro hvx (And.intro hvl hL)))
    clear hva hvx hvl hL hg
    go_enter Try.func8, Try.ntmps8
    go_wp2_with (go_at_call 26; refine HK.out.mono ?_; rintro e w1 ⟨rfl, hb1⟩)
    have HN := Lib.hid (new_dsk 60 256 w w1 hb1)
    have HB1 := Lib.hid hb1
    clear hb1
    refine HN.out.mono ?_
    rintro e w2 ⟨p, g, m, rfl, H2⟩
    have hi0 := new_inv 60 256 (by rw [new60.1]; omega) (by rw [new60.2]; omega)
    have HO := Lib.hid (open_sys H2.out.1 hi0)
    clear hi0
    go_wp2_with fail
    refine HO.out.mono ?_
    rintro e w3 ⟨lp, um, va3, vc3, rfl, H3⟩
    have HB3 := Lib.hid (batch_recs (w := w3) (g := g) 3 (by omega) (HV.out.2.2.1.below H3.out.1.below) (by omega) H3.out.1.log.disk.lt.2.1)
    go_wp2_with fail
    refine HB3.out.mono ?_
    rintro e w4 ⟨a4, c4, rfl, H4⟩
    have hx34 : Ext (fun _ => False) w3 w4 := Ext.of_below H4.out.2 (Nat.le_refl _)
    have HS4 := Lib.hid (H3.out.1.new_ext hx34)
    obtain ⟨s1, l1, hco, hI1, hz1, hn1, ht1, hx1, ha1⟩ := first_commit 60 60 new60.1 new60.2 (by omega) 3 L (by have := HV.out.2.2.2; omega)
    obtain ⟨csx, hrx, hrax⟩ := H4.out.1.rd
    have HC4 := Lib.hid (commit_sys HS4.out rfl hrx hrax (by simp) (by simp) (Nat.zero_le _) (by simp [batchF_length]; have := HV.out.2.2.2; omega) hco)
    have hcm : Calls Try.prog 28 #[.pointer (some ⟨lp, 0, none⟩), .slice a4 nl c4] w4 fun x w' => x = .returned (.int .i64 0) ∧ Hid (ForeignState w w' p g m) := by
      refine HC4.out.mono ?_
      rintro e w' ⟨rfl, h1, _⟩
      exact ⟨rfl, s1, h1.dsk, hI1.live, hz1, hn1⟩
    have HCM := Lib.hid hcm
    clear hx34 hco hI1 hz1 hn1 ht1 hx1 ha1 hrx hrax hcm HC4
    go_wp2_with (go_at_call 28; refine HCM.out.mono ?_; rintro e w5 ⟨rfl, H5⟩)
    go_loopw [11] (fun iv wr => ∃ k : Nat, k ≤ na ∧ iv = .int .i64 k ∧ Hid (ForeignState w wr p g m)) (fun iv _ => na - (intOf iv).toNat)
    case atStart => exact ⟨0, Nat.zero_le _, rfl, H5⟩
    case round =>
      obtain ⟨k, hk, rfl, hin⟩ := hrel
      by_cases hlt : k < na
      · have hbl : Below w.heap.size w wr := by obtain ⟨s, hd, _⟩ := hin.out; exact hd.below
        obtain ⟨xa, za, e1, hxa, hca, hwa⟩ := (HV.out.1.below hbl).at_ hlt
        obtain ⟨xx, zx, e2, hxx, hcx, hwx⟩ := (HV.out.2.1.below hbl).at_ (show k < nx by omega)
        subst e1
        subst e2
        have hza := wf_u16 hwa
        have hzx := wf_u8 hwx
        obtain ⟨ZA, hZA⟩ : ∃ ZA : Nat, za = (ZA : Int) := ⟨za.toNat, by omega⟩
        subst hZA
        obtain ⟨P, hP⟩ : ∃ P, ZA % 15360 = P := ⟨_, rfl⟩
        have hpl := place_nn (ZA : Int) 15360 (by omega) (by omega) (by omega) (by omega) wr
        have hPi : (ZA : Int) % 15360 = (P : Int) := by omega
        rw [hPi] at hpl
        have hP2 : P < 15360 := by omega
        obtain ⟨Q, hQ⟩ : ∃ Q, P / 256 = Q := ⟨_, rfl⟩
        obtain ⟨R, hR⟩ : ∃ R, P % 256 = R := ⟨_, rfl⟩
        have hQ1 : ((P : Int) / 256) = (Q : Int) := by omega
        have hR1 : ((P : Int).tmod 256) = (R : Int) := by rw [Int.tmod_eq_emod_of_nonneg (by omega)]; omega
        have hQ2 : Q < 60 := by omega
        have hR2 : R < 256 := by omega
        have HRD := Lib.hid (foreign_read hin.out Q hQ2)
        have HPL := Lib.hid hpl
        have HX := Lib.hid (And.intro hxx hcx)
        have hZA2 : (ZA : Int) ≤ 65535 := by omega
        have HBL := Lib.hid hbl
        clear hin hbl hpl hP hPi hQ hR hxa hxx hcx hwa hwx hza
        go_wp2_with (first | (go_at_call 19; (with_reducible refine HPL.out.mono ?_); rintro e w' ⟨rfl, rfl⟩) | (go_at_call 17; (with_reducible refine HRD.out.mono ?_); rintro e w6 ⟨b, c, cur, rfl, H6⟩))
        obtain ⟨y, hy, hy0, hy1⟩ := H6.out.2.2.1 R hR2
        have d1 := cell_of_block H6.out.2.1 R
        rw [hy] at d1
        have f1 := free_of_block H6.out.2.1 R
        have d2 := (H6.out.1.cell (p := xx.add k) (by rw [add_block]; exact HX.out.1)).trans HX.out.2
        clear hy
        go_region
        obtain ⟨Z, hZ⟩ : ∃ Z, bits BinOp.xor IntKind.u8 y zx = Z := ⟨_, rfl⟩
        have hZ0 : 0 ≤ Z ∧ Z ≤ 255 := by
          rw [← hZ]
          unfold bits
          simp only
          rw [IntKind.wrap_u8]
          omega
        rw [hZ]
        have HW := Lib.hid (H6.out.2.2.2 ((w6.setCell ⟨b, R, none⟩ (.int .u8 Z)).drew) R Z hR2 hZ0.1 hZ0.2 (((Ext.refl (· = b) w6).setLog b R _ rfl).drew) (heap_setCell_at H6.out.2.1 _))
        clear hZ0 hZ d1 f1 d2
        go_wp2_with (go_at_call 16; (with_reducible refine HW.out.mono ?_); rintro e w8 ⟨x8, rfl, H8⟩)
        refine ⟨⟨k + 1, by omega, by go_num, H8⟩, by simp [intOf]; omega⟩
      · obtain rfl : k = na := by omega
        obtain ⟨s, hd, hl, _⟩ := hin.out
        have hfl : Calls Try.prog 30 #[.pointer (some ⟨p, 0, none⟩)] wr fun e w' => ∃ x, e = .returned (.int .i64 x) ∧ Hid (Calls Try.prog 27 #[.pointer (some ⟨p, 0, none⟩)] w' fun e w' =>
            ((∃ lp va n vc, e = .returned (.tuple #[.pointer (some ⟨lp, 0, none⟩), .slice va n vc, .int .i64 0])) ∨ ∃ x, x ≠ 0 ∧ e = .returned (.tuple #[.pointer none, .slice none 0 0, .int .i64 x])) ∧ Hid (Below w.heap.size w w')) := by
          refine (flush_dsk hd).mono ?_
          rintro e w' ⟨rfl, h1, _⟩
          exact ⟨_, rfl, open_told h1⟩
        have HF := Lib.hid hfl
        clear hin hd hl hfl
        go_wp2_with (go_at_call 30; (with_reducible refine HF.out.mono ?_); rintro e w8 ⟨x8, rfl, H8⟩)
        refine H8.out.mono ?_
        rintro e w9 ⟨⟨lp9, va9, n9, vc9, rfl⟩ | ⟨x9, hx9, rfl⟩, H9⟩
        · go_wp2_with fail
          go_ret
          exact ⟨rfl, H9.out⟩
        · have hx0 : (x9 != 0) = true := by simpa using hx9
          have hx1 : (x9 == 0) = false := by simpa using hx9
          clear hx9
          go_wp2_with fail
          go_ret
          exact ⟨rfl, H9.out⟩
theorem foreign_row {a0 : Option Addr} {len0 cap0 : Nat} {z0 : List Int} {a1 : Option Addr} {len1 cap1 : Nat} {z1 : List Int} {a2 : Option Addr} {len2 cap2 : Nat} {z2 : List Int} (w : World)
    (w0 : (a0 = none ∧ len0 = 0 ∧ cap0 = 0 ∧ z0 = []) ∨ ∃ x, a0 = some x ∧ len0 ≤ cap0 ∧ cap0 ≤ maxLen ∧ z0.length = cap0 ∧ (∀ i, i < z0.length → w.cell? (x.add i) = some (.int .u16 (z0.getD i 0))) ∧ ∀ n ∈ z0, (Lit.int .u16 n).wf = true)
    (w1 : (a1 = none ∧ len1 = 0 ∧ cap1 = 0 ∧ z1 = []) ∨ ∃ x, a1 = some x ∧ len1 ≤ cap1 ∧ cap1 ≤ maxLen ∧ z1.length = cap1 ∧ (∀ i, i < z1.length → w.cell? (x.add i) = some (.int .u8 (z1.getD i 0))) ∧ ∀ n ∈ z1, (Lit.int .u8 n).wf = true)
    (w2 : (a2 = none ∧ len2 = 0 ∧ cap2 = 0 ∧ z2 = []) ∨ ∃ x, a2 = some x ∧ len2 ≤ cap2 ∧ cap2 ≤ maxLen ∧ z2.length = cap2 ∧ (∀ i, i < z2.length → w.cell? (x.add i) = some (.int .u8 (z2.getD i 0))) ∧ ∀ n ∈ z2, (Lit.int .u8 n).wf = true) :
    Calls Try.prog 8 #[.slice a0 len0 cap0, .slice a1 len1 cap1, .slice a2 len2 cap2] w fun e w' => e = .returned (.bool true) ∧ Below w.heap.size w w' := by
  obtain ⟨A, hA⟩ := ints_row w0
  obtain ⟨X, hX⟩ := ints_row w1
  obtain ⟨L, hL⟩ := bytes_row w2
  exact foreign_law _ _ _ _ _ _ A X L w hA hX hL
end Go.Proofs.Ytekolejeliefdaa
