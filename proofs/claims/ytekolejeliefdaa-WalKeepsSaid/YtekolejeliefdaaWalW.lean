/- The law WalResets. -/
import Derived.Test.YtekolejeliefdaaWalV
set_option linter.unusedVariables false
set_option linter.unusedSimpArgs false
namespace Go.Proofs.Ytekolejeliefdaa
open Go.RowKit

theorem body_batch (i : Nat) (L : List UInt8) : (bodyF (batchF i L)).length ≤ L.length * 259 ∧ (batchF i L).any isLong = false := by
  have h1 : ∀ (rs : List (List UInt8)), (∀ r ∈ rs, r.length ≤ 255) → (bodyF rs).length ≤ rs.length * 259 ∧ rs.any isLong = false := by
    intro rs h
    induction rs with
    | nil => exact ⟨by simp [bodyF], rfl⟩
    | cons r rs ih =>
      have h2 := ih (fun q hq => h q (by simp [hq]))
      have h3 := h r (by simp)
      refine ⟨?_, ?_⟩
      · have e : bodyF (r :: rs) = putF 4 r.length ++ (r ++ bodyF rs) := by simp [bodyF, recF]
        rw [e]
        simp only [List.length_append, putF_length, List.length_cons]
        omega
      · rw [List.any_cons, h2.2]
        simp [isLong]
        omega
  have h2 := h1 (batchF i L) (by
    intro r hr
    simp only [batchF, List.mem_map] at hr
    obtain ⟨k, _, rfl⟩ := hr
    rw [batchR_length]
    have := (L.getD k 0).toNat_lt
    omega)
  rwa [batchF_length] at h2
theorem Inv.commits {s : DS} {l : LS} {out : List (List UInt8)} (h : Inv s l out) (hn : l.next + 1 < 4611686018427387904) (rs : List (List UInt8)) :
    ∃ s' l' e out', commitF s l rs = (s', l', e) ∧ Inv s' l' out' ∧ s'.size = s.size ∧ s'.sure.length = s.sure.length ∧ l'.turn = l.turn ∧ l'.next ≤ l.next + 1 ∧ l'.count ≤ l.count + rs.length := by
  rcases h.commit hn rs with ⟨_, h1⟩ | ⟨_, _, h1⟩ | ⟨_, _, s', l', h1, h2, h3, h4, h5, h6, _⟩
  · exact ⟨s, l, _, out, h1, h, rfl, rfl, rfl, Nat.le_succ _, Nat.le_add_right _ _⟩
  · exact ⟨s, l, _, out, h1, h, rfl, rfl, rfl, Nat.le_succ _, Nat.le_add_right _ _⟩
  · refine ⟨s', l', _, _, h1, h2, h3, h4, h5, Nat.le_of_eq h6, ?_⟩
    rw [h2.count, h.count, List.length_append]
    exact Nat.le_refl _
/-- One round of the law: a commit of whatever, then the reset. -/
def ResetsState (w0 w : World) (lp um p g m : Nat) (v : Value) (rs : List (List UInt8)) (k : Nat) : Prop :=
  ∃ s l out, Sys w0 w lp um p g m s l ∧ Inv s l out ∧ s.size = 256 ∧ s.sure.length = 80 ∧ l.turn = k ∧ l.next ≤ 1 ∧ l.count ≤ 6 ∧ Recs w g v rs ∧ (0 < k → out = rs)
theorem resets_round {w0 wr : World} {lp um p g m : Nat} {v : Value} {L : List UInt8} {k : Nat} (h : ResetsState w0 wr lp um p g m v (batchF 2 L) k) (hL : L.length ≤ 6) (hk : k ≤ 100) :
    Calls Try.prog 29 #[.int .i64 k, .slice (some ⟨wr.heap.size, 0, none⟩) 3 3] (wr.alloc (.cells #[.int .u8 255, .int .u8 255, .int .u8 255] 5)) fun e w1 => ∃ a c, e = .returned (.slice a 3 c) ∧
      Hid (Calls Try.prog 28 #[.pointer (some ⟨lp, 0, none⟩), .slice a 3 c] w1 fun e w2 => ∃ x, e = .returned (.int .i64 x) ∧
        Hid (Calls Try.prog 31 #[.pointer (some ⟨lp, 0, none⟩), v] w2 fun e w3 => e = .returned (.int .i64 0) ∧
          Hid (Calls Try.prog 32 #[.pointer (some ⟨lp, 0, none⟩)] w3 (fun e w4 => e = .returned (.int .i64 L.length) ∧ w3 = w4) ∧ ResetsState w0 w3 lp um p g m v (batchF 2 L) (k + 1)))) := by
  obtain ⟨s, l, out, hS, hI, hz, hn, ht, hx, hc, hR, _⟩ := h
  have hx1 : Ext (fun _ => False) wr (wr.alloc (.cells #[.int .u8 255, .int .u8 255, .int .u8 255] 5)) := (Ext.refl _ wr).alloc _
  have hrd : Rd (wr.alloc (.cells #[.int .u8 255, .int .u8 255, .int .u8 255] 5)) 5 1 (.slice (some ⟨wr.heap.size, 0, none⟩) 3 3) 3 (u8s [255, 255, 255]) :=
    ⟨rfl, by simp [maxLen], 3, .inr ⟨_, 0, rfl, Nat.le_refl _, .inr ⟨_, (0, 0), heap_alloc_new wr _, rfl⟩⟩⟩
  refine (batch_any k (by omega) hrd.bytesIn (by omega)).mono ?_
  rintro e w1 ⟨v1, cs1, rfl, ho1, hra1, hb1⟩
  obtain ⟨a, c, rfl⟩ := (Rd.of_own ho1).form
  refine ⟨a, c, rfl, ?_⟩
  have hxw : Ext (fun _ => False) wr w1 := hx1.trans (Ext.of_below hb1 (Nat.le_refl _))
  have hS1 := hS.new_ext hxw
  have hR1 := hR.new_ext hxw
  obtain ⟨s', l', e', out', hco, hI', hz', hn', ht', hx', hc'⟩ := hI.commits (by omega) (batchF k [255, 255, 255])
  have hbl : (batchF k [255, 255, 255]).length = 3 := batchF_length _ _
  refine (commit_sys hS1 hI.und (Rd.of_own ho1) hra1 (by omega) (by omega) hI.at_ (by omega) hco).mono ?_
  rintro e w2 ⟨rfl, hS2, hx2⟩
  refine ⟨_, rfl, ?_⟩
  have hR2 := hS1.log.keepR hx2 (fun _ h => h) hR1
  have hbb := body_batch 2 L
  have hbn : (bodyF (batchF 2 L)).length ≤ 1554 := by
    have : L.length * 259 ≤ 6 * 259 := Nat.mul_le_mul_right _ hL
    omega
  rcases hI'.reset (by omega) (batchF 2 L) with ⟨h1, _⟩ | ⟨_, h1, _⟩ | ⟨_, _, s3, l3, hre, hI3, hz3, hn3, ht3, hx3, _⟩
  · rw [hbb.2] at h1
    cases h1
  · exfalso
    unfold fullF at h1
    rw [hz', hz, hn', hn] at h1
    omega
  · obtain ⟨cs2, hrd2, hra2⟩ := hR2.rd
    refine (reset_sys hS2 hI'.und hrd2 hra2 (by omega) hre).mono ?_
    rintro e w3 ⟨rfl, hS3, hx4⟩
    have hcl : l3.count = L.length := by rw [hI3.count, batchF_length]
    refine ⟨rfl, ?_, s3, l3, _, hS3, hI3, by omega, by omega, by omega, by omega, by omega, hS2.log.keepR hx4 (fun _ h => h) hR2, fun _ => rfl⟩
    have := count_any hS3.log
    rwa [hcl] at this
theorem Rd.below {w w' : World} {e : TypeId} {k n : Nat} {v : Value} {cs : List Value} (h : Rd w e k v n cs) (hb : Below w.heap.size w w') : Rd w' e k v n cs :=
  h.kept (fun b cur fr q => (hb.block b (lt_of_heap q)).trans q)
theorem new80 : (DS.new 80 256).sure.length = 80 ∧ (DS.new 80 256).size = 256 := by
  simp only [DS.new, List.length_replicate]
  decide
theorem same_recs {w : World} {g g' : Nat} {v v' : Value} {rs rs' : List (List UInt8)} (h : Recs w g v rs) (h' : Recs w g' v' rs') :
    Calls Try.prog 33 #[v, v'] w fun e w' => e = .returned (.bool (decide (rs = rs'))) ∧ Hid (Ext (fun _ => False) w w') := by
  obtain ⟨cs, h1, h2⟩ := h.rd
  obtain ⟨cs', h1', h2'⟩ := h'.rd
  refine (same_any h1 h2 h1' h2').mono ?_
  rintro e w' ⟨rfl, m, rfl⟩
  exact ⟨rfl, (Ext.refl _ w).drewN m⟩
set_option maxRecDepth 100000 in
set_option maxHeartbeats 2000000 in
theorem resets_law (a0 : Int) (hw0 : 0 ≤ a0 ∧ a0 ≤ 255) (v : Value) (n : Nat) (L : List UInt8) (w : World) (hv : BytesIn w v n L) :
    Calls Try.prog 9 #[.int .u8 a0, v] w fun e w' => e = .returned (.bool true) ∧ Below w.heap.size w w' := by
  have hL : L.length = n := hv.1
  obtain ⟨va, vc, rfl⟩ := hv.form
  have hm := hv.2.1
  unfold maxLen at hm
  have HK := Lib.hid (known4 w)
  by_cases h6 : 6 < n
  · have h6' : (6 : Int) < (n : Int) := by omega
    clear hv hL
    go_enter Try.func9, Try.ntmps9
    go_wp2_with (go_at_call 26; refine HK.out.mono ?_; rintro e w1 ⟨rfl, hb1⟩)
    go_ret
    exact ⟨rfl, hb1⟩
  · have h6' : ¬ (6 : Int) < (n : Int) := by omega
    have HV := Lib.hid (And.intro hv hL)
    clear hv hL
    go_enter Try.func9, Try.ntmps9
    go_wp2_with (go_at_call 26; refine HK.out.mono ?_; rintro e w1 ⟨rfl, hb1⟩)
    have HN := Lib.hid (new_dsk 80 256 w w1 hb1)
    have HB1 := Lib.hid hb1
    clear hb1
    refine HN.out.mono ?_
    rintro e w2 ⟨p, g, m, rfl, H2⟩
    have hi0 := new_inv 80 256 (by rw [new80.1]; omega) (by rw [new80.2]; omega)
    have HO := Lib.hid (open_sys H2.out.1 hi0)
    have HI0 := Lib.hid hi0
    clear hi0
    go_wp2_with fail
    refine HO.out.mono ?_
    rintro e w3 ⟨lp, um, va3, vc3, rfl, H3⟩
    have hbt := batch_any (w := w3) 2 (by omega) (HV.out.1.below H3.out.1.below) (by omega)
    have hbt' : Calls Try.prog 29 #[.int .i64 2, .slice va n vc] w3 fun e w' => ∃ a c, e = .returned (.slice a n c) ∧ Hid (ResetsState w w' lp um p g m (.slice a n c) (batchF 2 L) 0) := by
      refine hbt.mono ?_
      rintro e w' ⟨v9, cs, rfl, ho, hra, hb⟩
      obtain ⟨a, c, rfl⟩ := (Rd.of_own ho).form
      have hx : Ext (fun _ => False) w3 w' := Ext.of_below hb (Nat.le_refl _)
      have hlt := H3.out.1.log.disk.lt
      refine ⟨a, c, rfl, _, _, _, H3.out.1.new_ext hx, HI0.out, new80.2, new80.1, rfl, by simp, by simp, ⟨cs, own_mono (B := w3.heap.size) ?_ (by omega), hra⟩, fun h => absurd h (by omega)⟩
      rw [batchF_length, HV.out.2]
      exact ho
    have HB := Lib.hid hbt'
    clear hbt hbt'
    obtain ⟨N, hN⟩ : ∃ N : Nat, (a0 % 40 + 1).toNat = N := ⟨_, rfl⟩
    have hN1 : a0 % 40 + 1 = (N : Int) := by omega
    have hN2 : 1 ≤ N ∧ N ≤ 40 := by omega
    clear hN
    obtain ⟨hw1, hw2⟩ := hw0
    go_wp2_with (go_at_call 29; refine HB.out.mono ?_; rintro e w4 ⟨va9, vc9, rfl, H4⟩)
    go_loopw [10] (fun kv wr => ∃ k : Nat, k ≤ N ∧ kv = .int .i64 k ∧ Hid (ResetsState w wr lp um p g m (.slice va9 n vc9) (batchF 2 L) k)) (fun kv _ => N - (intOf kv).toNat)
    case atStart => exact ⟨0, Nat.zero_le _, rfl, H4⟩
    case round =>
      obtain ⟨k, hk, rfl, hin⟩ := hrel
      by_cases hlt : k < N
      · have hr := resets_round hin.out (by have := HV.out.2; omega) (by omega)
        rw [HV.out.2] at hr
        have HR := Lib.hid hr
        clear hin hr
        go_wp2_with (first | (go_at_call 29; refine HR.out.mono ?_; rintro e w5 ⟨a5, c5, rfl, H5⟩) | (go_at_call 28; refine H5.out.mono ?_; rintro e w6 ⟨x6, rfl, H6⟩) | (go_at_call 31; refine H6.out.mono ?_; rintro e w7 ⟨rfl, H7⟩) | (go_at_call 32; refine H7.out.1.mono ?_; rintro e w' ⟨rfl, rfl⟩))
        go_roundw
        case rel => exact ⟨k + 1, by omega, by go_num, H7.out.2⟩
        case measure => simp [intOf]; omega
      · obtain rfl : k = N := by omega
        obtain ⟨s, l, out, hS, hI, hz, hn, ht, hx, hc, hR, ho⟩ := hin.out
        obtain rfl := ho (by omega)
        have HO2 : Hid (Calls Try.prog 27 #[.pointer (some ⟨p, 0, none⟩)] wr fun e w' => ∃ (lp : Nat) (va : Option Addr) (vc : Nat), e = .returned (.tuple #[.pointer (some ⟨lp, 0, none⟩), .slice va n vc, .int .i64 0]) ∧
            Hid (Calls Try.prog 33 #[.slice va n vc, .slice va9 n vc9] w' fun e w2 => e = .returned (.bool true) ∧ Hid (Below w.heap.size w w2))) := by
          refine (open_sys hS.dsk hI).mono ?_
          rintro e w' ⟨lp2, um2, va2, vc2, rfl, h1, h2, h3, _⟩
          rw [batchF_length, HV.out.2] at h2 ⊢
          refine ⟨lp2, va2, vc2, rfl, ?_⟩
          have hR' := hR.new_ext (w1 := w') (Ext.of_below h3 (Nat.le_refl _))
          refine (same_recs h2 hR').mono ?_
          rintro e w2 ⟨rfl, hx2⟩
          exact ⟨by rw [decide_eq_true rfl], h1.below.trans ((hx2.below (fun _ _ h => h) (Nat.le_refl _)).mono h1.below.size)⟩
        clear hin hS hI hz hn ht hx hc hR ho
        go_wp2_with (first | (go_at_call 27; refine HO2.out.mono ?_; rintro e w5 ⟨lp5, va5, vc5, rfl, H5⟩) | (go_at_call 33; refine H5.out.mono ?_; rintro e w6 ⟨rfl, H6⟩))
        go_ret
        exact ⟨rfl, H6.out⟩
theorem resets_row {a0 : Int} {a1 : Option Addr} {len1 cap1 : Nat} {z1 : List Int} (w : World) (w0 : (Lit.int .u8 a0).wf = true) (w1 : (a1 = none ∧ len1 = 0 ∧ cap1 = 0 ∧ z1 = []) ∨
    ∃ x, a1 = some x ∧ len1 ≤ cap1 ∧ cap1 ≤ maxLen ∧ z1.length = cap1 ∧ (∀ i, i < z1.length → w.cell? (x.add i) = some (.int .u8 (z1.getD i 0))) ∧ ∀ n ∈ z1, (Lit.int .u8 n).wf = true) :
    Calls Try.prog 9 #[.int .u8 a0, .slice a1 len1 cap1] w fun e w' => e = .returned (.bool true) ∧ Below w.heap.size w w' := by
  obtain ⟨L, hL⟩ := bytes_row w1
  exact resets_law a0 (wf_u8 w0) _ _ L w hL
end Go.Proofs.Ytekolejeliefdaa
