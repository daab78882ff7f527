/- The law WalKeeps, walked. -/
import Derived.Test.YtekolejeliefdaaWalZA
set_option linter.unusedVariables false
set_option linter.unusedSimpArgs false
namespace Go.Proofs.Ytekolejeliefdaa
open Go.RowKit

theorem newN (n : Nat) (hn : n ≤ 255) : (DS.new ((60 : Int) + n) 256).sure.length = 60 + n ∧ (DS.new ((60 : Int) + n) 256).size = 256 := by
  simp only [DS.new, List.length_replicate]
  omega
set_option maxRecDepth 100000 in
set_option maxHeartbeats 8000000 in
theorem keeps_law (a0 : Nat) (h0 : a0 ≤ 255) (v : Value) (n : Nat) (w : World) (hv : ActsIn w v n) :
    Calls Try.prog 10 #[.int .u8 a0, v] w fun e w' => e = .returned (.bool true) ∧ Below w.heap.size w w' := by
  obtain ⟨va, vc, rfl⟩ := hv.form
  have hm := hv.1
  unfold maxLen at hm
  have HK := Lib.hid (known4 w)
  have HV := Lib.hid hv
  have h0i : (a0 : Int) ≤ 255 := by omega
  clear hv
  go_enter Try.func10, Try.ntmps10
  go_wp2_with (go_at_call 26; (with_reducible refine HK.out.mono ?_); rintro e w1 ⟨rfl, hb1⟩)
  have HL := Lib.hid (light_any (HV.out.below hb1))
  have HB1 := Lib.hid hb1
  clear hb1
  refine HL.out.mono ?_
  rintro e w' ⟨b, rfl, hbt, rfl⟩
  cases b with
  | false =>
    clear hbt
    go_wp2_with fail
    go_ret
    exact ⟨rfl, HB1.out⟩
  | true =>
    obtain ⟨hn30, hlf⟩ := hbt rfl
    have HLF := Lib.hid hlf
    clear hbt hlf
    obtain ⟨N, hN⟩ : ∃ N : Nat, 60 + a0 = N := ⟨_, rfl⟩
    have hNi : (60 : Int) + (a0 : Int) = (N : Int) := by omega
    have hnew := newN a0 h0
    rw [hNi, hN] at hnew
    have hN1 : 60 ≤ N ∧ N ≤ 315 := by omega
    obtain ⟨hN2, hN3⟩ := hN1
    have HN := Lib.hid (new_dsk (N : Int) 256 w w1 HB1.out)
    have HNW := Lib.hid hnew
    clear hnew hN
    go_wp2_with fail
    refine HN.out.mono ?_
    rintro e w2 ⟨p, g, m, rfl, H2⟩
    have hi0 := new_inv (N : Int) 256 (by rw [HNW.out.1]; omega) (by rw [HNW.out.2]; omega)
    have HO := Lib.hid (open_sys H2.out.1 hi0)
    have HI0 := Lib.hid hi0
    clear hi0
    go_wp2_with fail
    refine HO.out.mono ?_
    rintro e w3 ⟨lp, um, va3, vc3, rfl, H3⟩
    have hrm := room_any H3.out.1.log (Nat.zero_le _)
    obtain ⟨R0, hR0⟩ : ∃ R0, ((DS.new (N : Int) 256).sure.length / 2 - 0) * ((DS.new (N : Int) 256).size - 16) - 36 = R0 := ⟨_, rfl⟩
    have hR1 : R0 = (N / 2) * 240 - 36 := by rw [← hR0, HNW.out.1, HNW.out.2]; rfl
    have hR2 : (N : Int) * 64 - 1024 ≤ (R0 : Int) := by omega
    have hR3 : R0 ≤ 1000000 := by omega
    simp only at hrm
    rw [hR0] at hrm
    have HRM := Lib.hid hrm
    have hst : Hid (∃ um, KeepState w w3 lp um p g m N (.slice none 0 0) 0 0) := ⟨um, _, _, [], H3.out.1, HI0.out, HNW.out.2, HNW.out.1, by simp, by simp, rfl, by omega, Recs.nil _ _⟩
    clear hrm hR0 hR1
    go_wp2_with (go_at_call 35; (with_reducible refine HRM.out.mono ?_); rintro e w' ⟨rfl, rfl⟩)
    go_loopw [7, 10, 11] (fun lv av iv wr => ∃ (k lp c : Nat) (aA : Option Addr) (cA : Nat), k ≤ n ∧ iv = .int .i64 k ∧ lv = .pointer (some ⟨lp, 0, none⟩) ∧ av = .slice aA c cA ∧ Hid (∃ um, KeepState w wr lp um p g m N (.slice aA c cA) k c)) (fun _ _ iv _ => n - (intOf iv).toNat)
    case atStart => exact ⟨0, lp, 0, none, 0, Nat.zero_le _, rfl, rfl, rfl, hst⟩
    case round =>
      obtain ⟨k, lq, c, aA, cA, hk, rfl, rfl, rfl, hin⟩ := hrel
      obtain ⟨uq, hK⟩ := hin.out
      by_cases hlt : k < n
      · have hbl : Below w.heap.size w wr := by obtain ⟨s, l, all, hS, _⟩ := hK; exact hS.below
        obtain ⟨x, what, al, nl, cl, L, e1, hx, hc1, hc2, hbi⟩ := HV.out.at_ hlt
        subst e1
        have hlf := HLF.out x rfl k hlt al nl cl (by
          rw [HB1.out.cell (p := ⟨(x.add (k * 2)).block, (x.add (k * 2)).off + 1, none⟩) (by show (x.add (k * 2)).block < _; rw [add_block]; exact hx)]
          exact hc2)
        have d2 := (hbl.cell (p := ⟨(x.add (k * 2)).block, (x.add (k * 2)).off + 1, none⟩) (by show (x.add (k * 2)).block < _; rw [add_block]; exact hx)).trans hc2
        have hLl : L.length = nl := hbi.1
        have HKB := Lib.hid (keep_batch hK (by omega) (hbi.below hbl) hlf)
        have HX := Lib.hid (And.intro hx hc1)
        have HLL := Lib.hid hLl
        clear hin hK hbl hc1 hc2 hbi hx hLl
        by_cases h5 : what = 5
        · subst h5
          go_wp2_with (first | (go_at_call 29; (with_reducible refine HKB.out.mono ?_); rintro e w4 ⟨a4, c4, R, rfl, hR, H4⟩; have d3 := (H4.out.2.below.cell (p := x.add (k * 2)) (by rw [add_block]; exact HX.out.1)).trans HX.out.2) | (go_at_call 35; (with_reducible refine H4.out.1.mono ?_); rintro e w' ⟨rfl, rfl⟩) | (go_at_call 27; (with_reducible refine (keep_open H4.out.2).mono ?_); rintro e w5 ⟨lp5, um5, a5, c5, rfl, H5⟩) | (go_at_call 33; (with_reducible refine H5.out.mono ?_); rintro e w6 ⟨rfl, H6⟩))
          refine ⟨⟨k + 1, lp5, c, aA, cA, by omega, by go_num, rfl, rfl, um5, H6.out⟩, by simp [intOf]; omega⟩
        · have h5' : (what == 5) = false := by simpa using h5
          by_cases h4 : what = 4
          · subst h4
            have hrs : ∀ w4 a4 c4 R, KeepMid w w4 lq uq p g m N (.slice aA c cA) k c (.slice a4 nl c4) (batchF k L) R → Calls Try.prog 31 #[.pointer (some ⟨lq, 0, none⟩), .slice a4 nl c4] w4 fun e w1 => e = .returned (.int .i64 0) ∧
                Hid (Calls Try.prog 32 #[.pointer (some ⟨lq, 0, none⟩)] w1 (fun e w2 => e = .returned (.int .i64 nl) ∧ w1 = w2) ∧ KeepState w w1 lq uq p g m N (.slice a4 nl c4) (k + 1) nl) := by
              intro w4 a4 c4 R h
              have := keep_reset h (by omega) (by have := HLL.out; omega) hN2
              rw [HLL.out] at this
              exact this
            have HRS := Lib.hid hrs
            clear hrs
            go_wp2_with (first | (go_at_call 29; (with_reducible refine HKB.out.mono ?_); rintro e w4 ⟨a4, c4, R, rfl, hR, H4⟩; have d3 := (H4.out.2.below.cell (p := x.add (k * 2)) (by rw [add_block]; exact HX.out.1)).trans HX.out.2) | (go_at_call 35; (with_reducible refine H4.out.1.mono ?_); rintro e w' ⟨rfl, rfl⟩) | (go_at_call 31; (with_reducible refine (HRS.out _ _ _ _ H4.out.2).mono ?_); rintro e w5 ⟨rfl, H5⟩) | (go_at_call 32; (with_reducible refine H5.out.1.mono ?_); rintro e w' ⟨rfl, rfl⟩))
            refine ⟨⟨k + 1, lq, nl, a4, c4, by omega, by go_num, rfl, rfl, uq, H5.out.2⟩, by simp [intOf]; omega⟩
          · have h4' : (what == 4) = false := by simpa using h4
            have hL6 : Hid (L.length ≤ 6) := by have := HLL.out; show L.length ≤ 6; omega
            go_wp2_with (first | (go_at_call 29; (with_reducible refine HKB.out.mono ?_); rintro e w4 ⟨a4, c4, R, rfl, hR, H4⟩; have d3 := (H4.out.2.below.cell (p := x.add (k * 2)) (by rw [add_block]; exact HX.out.1)).trans HX.out.2) | (go_at_call 35; (with_reducible refine H4.out.1.mono ?_); rintro e w' ⟨rfl, rfl⟩))
            refine (keep_commit H4.out.2 (by omega) hL6.out).mono ?_
            rintro e w5 (⟨rfl, hlt5, H5⟩ | ⟨rfl, all, H5⟩)
            · obtain ⟨SZ, hSZ⟩ : ∃ SZ, sizeF (batchF k L) = SZ := ⟨_, rfl⟩
              have hsz := size_recs H5.out.1 hL6.out
              have hszl := size_le k L hL6.out
              rw [hSZ] at hsz hlt5 hszl
              have HSZ := Lib.hid hsz
              have HCT := Lib.hid (keep_count H5.out.2)
              have hlt6 : ¬ (SZ : Int) + 512 ≤ (R : Int) := by omega
              clear hsz hSZ
              go_wp2_with (first | (go_at_call 36; (with_reducible refine HSZ.out.mono ?_); rintro e w' ⟨rfl, rfl⟩) | (go_at_call 32; (with_reducible refine HCT.out.mono ?_); rintro e w' ⟨rfl, rfl⟩))
              refine ⟨⟨k + 1, lq, c, aA, cA, by omega, by go_num, rfl, rfl, uq, H5.out.2⟩, by simp [intOf]; omega⟩
            · obtain ⟨hcl, hra, hrb, hg5, hnext⟩ := H5.out
              obtain ⟨csx, csy, HAP⟩ := append_two hg5 hra hrb hcl (by rw [batchF_length]; exact HLL.out)
              obtain ⟨SZ, hSZ⟩ : ∃ SZ, sizeF (batchF k L) = SZ := ⟨_, rfl⟩
              have hszl := size_le k L hL6.out
              rw [hSZ] at hszl
              have hcb : c ≤ 200 := by
                obtain ⟨s, l, all', hS, hI, hz, hn, ht, hx, hc, hc6, _⟩ := H4.out.2
                omega
              have hnx : Hid (∀ w15 a15 c15, Recs w15 g (.slice a15 (c + nl) c15) (all ++ batchF k L) → Ext (fun _ => False) w5 w15 → ∃ R2 : Nat, (R : Int) - SZ - 512 ≤ R2 ∧ (R2 : Int) ≤ 100000000 ∧ Hid (
                  Calls Try.prog 35 #[.pointer (some ⟨lq, 0, none⟩)] w15 (fun e w3 => e = .returned (.int .i64 R2) ∧ w15 = w3) ∧
                  Calls Try.prog 36 #[.slice a4 nl c4] w15 (fun e w3 => e = .returned (.int .i64 SZ) ∧ w15 = w3) ∧
                  Calls Try.prog 32 #[.pointer (some ⟨lq, 0, none⟩)] w15 (fun e w3 => e = .returned (.int .i64 ((c : Int) + (nl : Int))) ∧ w15 = w3) ∧ KeepState w w15 lq uq p g m N (.slice a15 (c + nl) c15) (k + 1) (c + nl))) := by
                intro w15 a15 c15 h1 h2
                obtain ⟨R2, q1, q2, q3, q4, q5, q6⟩ := hnext w15 _ h2 h1
                have q7 := size_recs q3 hL6.out
                rw [hSZ] at q1 q7
                rw [HLL.out] at q5 q6
                refine ⟨R2, q1, by omega, q4, q7, ?_, q6⟩
                have e1 : ((c : Int) + (nl : Int)) = ((c + nl : Nat) : Int) := by push_cast; rfl
                rw [e1]
                exact q5
              clear hcl hra hrb hg5 hnext hSZ
              go_wp2_with (first | (at_builtin; refine wpList_app rfl (.const (.slice none 0 0)) (.tmp 91) 26 rfl (g + 1) 33 1 24 (.slice none 0 0) Try.underlying26 (by kernel_rfl) rfl (by omega) (.slice none 0 0) 0 [] rfl HAP.out.2.2.2.1 _ c csx 33 rfl HAP.out.1 HAP.out.2.1 (by simp only [maxLen]; omega) (by omega) HAP.out.2.2.2.2.1 ?_; intro v14 w14 o1 o2 o3; obtain ⟨a14, c14, rfl, H14⟩ := HAP.out.2.2.2.2.2 v14 w14 o1 o2 o3; clear o1 o2 o3) | (at_builtin; refine wpList_app rfl (.tmp 92) (.tmp 93) 26 rfl (g + 1) 33 1 24 (.slice none 0 0) Try.underlying26 (by kernel_rfl) rfl (by omega) (.slice a14 c c14) c csx rfl H14.out.1 _ nl csy 33 rfl H14.out.2.1 HAP.out.2.2.1 (by simp only [maxLen]; omega) (by omega) H14.out.2.2.1 ?_; intro v15 w15 o1 o2 o3; obtain ⟨a15, c15, rfl, H15⟩ := H14.out.2.2.2 v15 w15 o1 o2 o3; clear o1 o2 o3; obtain ⟨R2, hR2, hR3, H7⟩ := hnx.out w15 a15 c15 H15.out.1 H15.out.2) | (go_at_call 35; (with_reducible refine H7.out.1.mono ?_); rintro e w' ⟨rfl, rfl⟩) | (go_at_call 36; (with_reducible refine H7.out.2.1.mono ?_); rintro e w' ⟨rfl, rfl⟩) | (go_at_call 32; (with_reducible refine H7.out.2.2.1.mono ?_); rintro e w' ⟨rfl, rfl⟩))
              refine ⟨⟨k + 1, lq, c + nl, a15, c15, by omega, by go_num, rfl, rfl, uq, H7.out.2.2.2⟩, by simp [intOf]; omega⟩
      · obtain rfl : k = n := by omega
        have hfin : Calls Try.prog 27 #[.pointer (some ⟨p, 0, none⟩)] wr fun e w1 => ∃ (lp' : Nat) (a : Option Addr) (cc : Nat), e = .returned (.tuple #[.pointer (some ⟨lp', 0, none⟩), .slice a c cc, .int .i64 0]) ∧
            Hid (Calls Try.prog 33 #[.slice a c cc, .slice aA c cA] w1 fun e w2 => e = .returned (.bool true) ∧ Hid (Below w.heap.size w w2)) := by
          obtain ⟨s, l, all, hS, hI, hz, hn, ht, hx, hc, hc6, hR⟩ := hK
          refine (open_sys hS.dsk hI).mono ?_
          rintro e w1 ⟨lp', um', a, cc, rfl, h1, h2, h3, _⟩
          rw [hc] at h2 ⊢
          refine ⟨lp', a, cc, rfl, ?_⟩
          refine (same_recs h2 (hR.new_ext (w1 := w1) (Ext.of_below h3 (Nat.le_refl _)))).mono ?_
          rintro e w2 ⟨rfl, hx2⟩
          exact ⟨by rw [decide_eq_true rfl], (h1.new_ext hx2.out).below⟩
        have HF := Lib.hid hfin
        clear hin hK hfin
        go_wp2_with (first | (go_at_call 27; (with_reducible refine HF.out.mono ?_); rintro e w5 ⟨lp5, a5, c5, rfl, H5⟩) | (go_at_call 33; (with_reducible refine H5.out.mono ?_); rintro e w6 ⟨rfl, H6⟩))
        go_ret
        exact ⟨rfl, H6.out⟩
end Go.Proofs.Ytekolejeliefdaa
