/- The law WalTwice. -/
import Derived.Test.YtekolejeliefdaaWalW
set_option linter.unusedVariables false
set_option linter.unusedSimpArgs false
namespace Go.Proofs.Ytekolejeliefdaa
open Go.RowKit

section
variable {w0 w w1 : World} {lp um p g m : Nat} {s s' : DS} {l l' : LS} {v : Value} {rs : List (List UInt8)} {e : Int}
theorem Sys.went (h : Sys w0 w lp um p g m s l) (h' : Dsk w0 w1 p g m s') (hx : Ext (fun k => k = p ∨ k = g ∨ k = m) w w1) : Sys w0 w1 lp um p g m s' l :=
  ⟨h.log.went hx (fun _ h => h) h'.disk, h.new, h'.below⟩
theorem Dsk.step (h : Dsk w0 w p g m s) (hd : DiskAt (· < w0.heap.size) w1 p g m s') {S : Nat → Prop} (hx : Ext S w w1) (hS : ∀ k, S k → k = p ∨ k = g ∨ k = m) : Dsk w0 w1 p g m s' :=
  ⟨hd, h.new, h.below.trans (hx.below (B := w0.heap.size) (fun k hk q => by have := h.new; have := hS k q; omega) h.below.size)⟩
theorem cut_dsk (h : Dsk w0 w p g m s) (n : Int) (hn : n ≤ 9223372036854775807) : Calls Try.prog 18 #[.pointer (some ⟨p, 0, none⟩), .int .i64 n] w fun e w' => e = .returned (.tuple #[]) ∧ Hid (Dsk w0 w' p g m (s.cutAt n) ∧ Ext (fun k => k = p ∨ k = g ∨ k = m) w w') := by
  refine (cut_any h.disk n hn).mono ?_
  rintro e w' ⟨rfl, hd, hx⟩
  exact ⟨rfl, h.step hd hx (fun k q => .inl q), hx.mono (fun k _ q => .inl q)⟩
theorem crash_dsk (h : Dsk w0 w p g m s) (keep : Nat) (hk : keep < 18446744073709551616) (torn at_ : Int) : Calls Try.prog 37 #[.pointer (some ⟨p, 0, none⟩), .int .u64 keep, .int .i64 torn, .int .i64 at_] w fun e w' => e = .returned (.tuple #[]) ∧ Hid (Dsk w0 w' p g m (s.crash keep torn at_) ∧ Ext (fun k => k = p ∨ k = g ∨ k = m) w w') := by
  refine (crash_any h.disk keep hk torn at_).mono ?_
  rintro e w' ⟨rfl, hd, hx⟩
  exact ⟨rfl, h.step hd hx (fun _ h => h), hx⟩
theorem flush_dsk (h : Dsk w0 w p g m s) : Calls Try.prog 30 #[.pointer (some ⟨p, 0, none⟩)] w fun e w' => e = .returned (.int .i64 s.flush.2) ∧ Hid (Dsk w0 w' p g m s.flush.1 ∧ Ext (fun k => k = p ∨ k = g ∨ k = m) w w') := by
  refine (flush_any h.disk).mono ?_
  rintro e w' ⟨rfl, hd, hx⟩
  exact ⟨rfl, h.step hd hx (fun _ h => h), hx⟩
theorem write_dsk (h : Dsk w0 w p g m s) (i : Int) {n : Nat} {b : List UInt8} (hv : Rd w 5 1 v n (u8s b)) : Calls Try.prog 16 #[.pointer (some ⟨p, 0, none⟩), .int .i64 i, v] w fun e w' => e = .returned (.int .i64 (s.write i b).2) ∧ Hid (Dsk w0 w' p g m (s.write i b).1 ∧ Ext (fun k => k = p ∨ k = g ∨ k = m) w w') := by
  refine (write_any h.disk i hv).mono ?_
  rintro e w' ⟨rfl, hd, hx⟩
  exact ⟨rfl, h.step hd hx (fun k q => by rcases q with q | q <;> simp [q]), hx.mono (fun k _ q => by rcases q with q | q <;> simp [q])⟩
/-- A disk is opened, whatever is told. -/
theorem open_dsk (h : Dsk w0 w p g m s) : Calls Try.prog 27 #[.pointer (some ⟨p, 0, none⟩)] w fun e w' => ∃ r, e = .returned r ∧ Hid (Dsk w0 w' p g m s ∧ Ext (fun _ => False) w w') := by
  refine (opened_any h.disk).mono ?_
  rintro e w' ⟨hp, hb⟩
  have hx : Ext (fun _ => False) w w' := Ext.of_below hb (Nat.le_refl _)
  have hr : ∃ r, e = .returned r := by
    split at hp
    · obtain ⟨_, _, _, _, rfl, _⟩ := hp
      exact ⟨_, rfl⟩
    · exact ⟨_, hp⟩
  obtain ⟨r, rfl⟩ := hr
  exact ⟨r, rfl, h.new_ext hx, hx⟩
/-- A crash of a disk on which all is sure turns nothing. -/
theorem Inv.calm {out : List (List UInt8)} (h : Inv s l out) (c : Int) (hc : c ≤ 9223372036854775807) (keep : Nat) : Inv ((s.cutAt c).crash keep (-1) 0) l out := by
  have hok : (s.cutAt c).Ok := h.live.ok.cutTo (max c 0) (by omega) (by omega)
  obtain ⟨h1, h2, h3, h4⟩ := crash_live hok keep
  refine h.mix h1 h2 h3 h4 (fun j hj => .inl ?_)
  have hd : (s.cutAt c).dirty = [] := h.clean
  rw [dead_cut hok keep (fun j => by rw [hd]; rfl)]
  unfold DS.last
  rw [h.clean]
  rfl
/-- A batch made since. -/
theorem batch_recs (i : Nat) (hi : i ≤ 1000) {n : Nat} {L : List UInt8} (hv : BytesIn w v n L) (hn : n ≤ 1000) (hg : g < w.heap.size) :
    Calls Try.prog 29 #[.int .i64 i, v] w fun e w' => ∃ a c, e = .returned (.slice a n c) ∧ Hid (Recs w' g (.slice a n c) (batchF i L) ∧ Below w.heap.size w w') := by
  refine (batch_any i hi hv hn).mono ?_
  rintro e w' ⟨v9, cs, rfl, ho, hra, hb⟩
  obtain ⟨a, c, rfl⟩ := (Rd.of_own ho).form
  refine ⟨a, c, rfl, ⟨cs, own_mono (B := w.heap.size) ?_ (by omega), hra⟩, hb⟩
  rw [batchF_length, hv.1]
  exact ho
end
theorem new120 : (DS.new 120 256).sure.length = 120 ∧ (DS.new 120 256).size = 256 := by
  simp only [DS.new, List.length_replicate]
  decide
/-- A first commit of a batch, on a new disk. -/
theorem first_commit (n : Int) (N : Nat) (hN : (DS.new n 256).sure.length = N) (hz : (DS.new n 256).size = 256) (h40 : 40 ≤ N) (i : Nat) (L : List UInt8) (hL : L.length ≤ 6) :
    ∃ s1 l1, commitF (DS.new n 256) { turn := 0, next := 0, at_ := 0, count := 0, undone := [] } (batchF i L) = (s1, l1, 0) ∧ Inv s1 l1 (batchF i L) ∧ s1.size = 256 ∧ s1.sure.length = N ∧ l1.turn = 0 ∧ l1.next = 1 ∧ l1.at_ ≤ 7 := by
  have hi0 := new_inv n 256 (by omega) (by omega)
  have hbb := body_batch i L
  have hbn : (bodyF (batchF i L)).length ≤ 1554 := by
    have : L.length * 259 ≤ 6 * 259 := Nat.mul_le_mul_right _ hL
    omega
  rcases hi0.commit (by simp) (batchF i L) with ⟨h1, _⟩ | ⟨_, h1, _⟩ | ⟨_, _, s1, l1, h1, h2, h3, h4, h5, h6, h7⟩
  · rw [hbb.2] at h1
    cases h1
  · exfalso
    unfold fullF at h1
    rw [hN, hz] at h1
    simp only at h1
    have : 20 * 240 ≤ (N / 2 - 0) * (256 - 16) := Nat.mul_le_mul (by omega) (by omega)
    omega
  · refine ⟨s1, l1, h1, h2, h3.trans hz, h4.trans hN, h5, h6, ?_⟩
    rw [h7]
    unfold takeF
    rw [hz]
    have : secsF 240 (32 + (bodyF (batchF i L)).length) ≤ 7 := secs_fit (by omega) (by omega)
    simpa using this
theorem two_app {w : World} {g : Nat} {v : Value} {rs : List (List UInt8)} (h : Recs w g v rs) : ∃ cs, Rd w 33 1 v rs.length cs ∧ RecsAt w cs rs ∧ ∀ u ∈ cs, u.oneCell' = true := by
  obtain ⟨cs, h1, h2⟩ := h.rd
  refine ⟨cs, h1, h2, fun u hu => ?_⟩
  obtain ⟨i, hi, rfl⟩ := List.getElem_of_mem hu
  obtain ⟨a', c', e1⟩ := (h2.2 i _ _ (List.getElem?_eq_getElem hi) (List.getElem?_eq_getElem (by rw [← h2.1]; exact hi))).form
  rw [e1]
  rfl
/-- What the end of the law is told: what is read is the one, or both. -/
theorem twice_end {w : World} {g : Nat} {v vx vb : Value} {out X B : List (List UInt8)} (h : Recs w g v out) (hx : Recs w g vx X) (hb : Recs w g vb B) (hor : out = X ∨ out = B) :
    Calls Try.prog 33 #[v, vx] w fun e w1 => ∃ b, e = .returned (.bool b) ∧ (b = false → Hid (Calls Try.prog 33 #[v, vb] w1 fun e w2 => e = .returned (.bool true) ∧ Hid (Ext (fun _ => False) w w2))) ∧ Hid (Ext (fun _ => False) w w1) := by
  refine (same_recs h hx).mono ?_
  rintro e w1 ⟨rfl, hx1⟩
  refine ⟨_, rfl, fun hb' => ?_, hx1⟩
  have hne : out ≠ X := of_decide_eq_false hb'
  have ho : out = B := hor.resolve_left hne
  refine (same_recs (h.new_ext hx1) (hb.new_ext hx1)).mono ?_
  rintro e w2 ⟨rfl, hx2⟩
  exact ⟨by rw [decide_eq_true ho], hx1.out.trans hx2⟩
set_option maxRecDepth 100000 in
set_option maxHeartbeats 4000000 in
theorem twice_law (va vb : Value) (na nb : Nat) (La Lb : List UInt8) (cut again : Int) (keep more : Nat) (hcut : 0 ≤ cut ∧ cut ≤ 255) (hagain : 0 ≤ again ∧ again ≤ 255) (hkeep : keep < 18446744073709551616) (hmore : more < 18446744073709551616) (w : World) (hva : BytesIn w va na La) (hvb : BytesIn w vb nb Lb) :
    Calls Try.prog 11 #[va, vb, .int .u8 cut, .int .u8 again, .int .u64 keep, .int .u64 more] w fun e w' => e = .returned (.bool true) ∧ Below w.heap.size w w' := by
  have hLa : La.length = na := hva.1
  have hLb : Lb.length = nb := hvb.1
  obtain ⟨aa, ca, rfl⟩ := hva.form
  obtain ⟨ab, cb, rfl⟩ := hvb.form
  have hma := hva.2.1
  have hmb := hvb.2.1
  unfold maxLen at hma hmb
  have HK := Lib.hid (known4 w)
  by_cases h6 : 6 < na
  · have h6' : (6 : Int) < (na : Int) := by omega
    clear hva hvb hLa hLb
    go_enter Try.func11, Try.ntmps11
    go_wp2_with (go_at_call 26; refine HK.out.mono ?_; rintro e w1 ⟨rfl, hb1⟩)
    go_ret
    exact ⟨rfl, hb1⟩
  · have h6' : (na : Int) ≤ 6 := by omega
    by_cases h7 : 6 < nb
    · have h7' : (6 : Int) < (nb : Int) := by omega
      clear hva hvb hLa hLb
      go_enter Try.func11, Try.ntmps11
      go_wp2_with (go_at_call 26; refine HK.out.mono ?_; rintro e w1 ⟨rfl, hb1⟩)
      go_ret
      exact ⟨rfl, hb1⟩
    · have h7' : (nb : Int) ≤ 6 := by omega
      have HV := Lib.hid (And.intro hva (And.intro hvb (And.intro hLa hLb)))
      clear hva hvb hLa hLb
      obtain ⟨C, hC⟩ : ∃ C : Int, cut % 12 = C := ⟨_, rfl⟩
      obtain ⟨D, hD⟩ : ∃ D : Int, again % 6 = D := ⟨_, rfl⟩
      have hC2 : 0 ≤ C ∧ C ≤ 11 := by omega
      have hD2 : 0 ≤ D ∧ D ≤ 5 := by omega
      obtain ⟨hC3, hC4⟩ := hC2
      obtain ⟨hD3, hD4⟩ := hD2
      obtain ⟨hcut1, hcut2⟩ := hcut
      obtain ⟨hag1, hag2⟩ := hagain
      have HKM := Lib.hid (And.intro hkeep hmore)
      clear hkeep hmore
      go_enter Try.func11, Try.ntmps11
      go_wp2_with (go_at_call 26; refine HK.out.mono ?_; rintro e w1 ⟨rfl, hb1⟩)
      have HN := Lib.hid (new_dsk 120 256 w w1 hb1)
      have HB1 := Lib.hid hb1
      clear hb1
      refine HN.out.mono ?_
      rintro e w2 ⟨p, g, m, rfl, H2⟩
      have hi0 := new_inv 120 256 (by rw [new120.1]; omega) (by rw [new120.2]; omega)
      have HO := Lib.hid (open_sys H2.out.1 hi0)
      clear hi0
      go_wp2_with fail
      refine HO.out.mono ?_
      rintro e w3 ⟨lp, um, va3, vc3, rfl, H3⟩
      have HB3 := Lib.hid (batch_recs (w := w3) (g := g) 1 (by omega) (HV.out.1.below H3.out.1.below) (by omega) H3.out.1.log.disk.lt.2.1)
      go_wp2_with fail
      refine HB3.out.mono ?_
      rintro e w4 ⟨ax, cx, rfl, H4⟩
      have hx34 : Ext (fun _ => False) w3 w4 := Ext.of_below H4.out.2 (Nat.le_refl _)
      have HS4 := Lib.hid (H3.out.1.new_ext hx34)
      have HB4 := Lib.hid (batch_recs (w := w4) (g := g) 2 (by omega) (HV.out.2.1.below HS4.out.below) (by omega) HS4.out.log.disk.lt.2.1)
      clear hx34
      go_wp2_with fail
      refine HB4.out.mono ?_
      rintro e w5 ⟨ay, cy, rfl, H5⟩
      have hx45 : Ext (fun _ => False) w4 w5 := Ext.of_below H5.out.2 (Nat.le_refl _)
      have HS5 := Lib.hid (HS4.out.new_ext hx45)
      have HX5 := Lib.hid (H4.out.1.new_ext hx45)
      obtain ⟨s1, l1, hco, hI1, hz1, hn1, ht1, hx1, ha1⟩ := first_commit 120 120 new120.1 new120.2 (by omega) 1 La (by have := HV.out.2.2.1; omega)
      obtain ⟨csx, hrx, hrax⟩ := HX5.out.rd
      have HC5 := Lib.hid (commit_sys HS5.out rfl hrx hrax (by simp) (by simp) (Nat.zero_le _) (by simp [batchF_length]; have := HV.out.2.2.1; omega) hco)
      have HI1 := Lib.hid (And.intro hI1 (And.intro hz1 (And.intro hn1 (And.intro ht1 (And.intro hx1 ha1)))))
      clear hx45 hco hI1 hz1 hn1 ht1 hx1 ha1 hrx hrax
      go_wp2_with fail
      refine HC5.out.mono ?_
      rintro e w6 ⟨rfl, H6⟩
      have HX6 := Lib.hid (HS5.out.log.keepR H6.out.2 (fun _ h => h) HX5.out)
      have HY6 := Lib.hid (HS5.out.log.keepR H6.out.2 (fun _ h => h) H5.out.1)
      have HC6 := Lib.hid (cut_dsk H6.out.1.dsk C (by omega))
      go_wp2_with fail
      refine HC6.out.mono ?_
      rintro e w7 ⟨rfl, H7⟩
      have HS7 := Lib.hid (H6.out.1.went H7.out.1 H7.out.2)
      have HX7 := Lib.hid (H6.out.1.log.keepR H7.out.2 (fun k h => by rcases h with h | h | h <;> simp [h]) HX6.out)
      have HY7 := Lib.hid (H6.out.1.log.keepR H7.out.2 (fun k h => by rcases h with h | h | h <;> simp [h]) HY6.out)
      have hbb := body_batch 2 Lb
      have hbn : (bodyF (batchF 2 Lb)).length ≤ 1554 := by
        have : Lb.length * 259 ≤ 6 * 259 := Nat.mul_le_mul_right _ (by have := HV.out.2.2.2; omega)
        omega
      have hnf : ¬ fullF s1 l1.at_ (batchF 2 Lb) := by
        obtain ⟨_, q1, q2, _, _, q3⟩ := HI1.out
        unfold fullF
        rw [q1, q2]
        have : 50 * 240 ≤ (120 / 2 - l1.at_) * (256 - 16) := Nat.mul_le_mul (by omega) (by omega)
        omega
      obtain ⟨s2, l2, e2, hco2, hok2, hz2, hn2, _, hcr⟩ := commit_cut HI1.out.1 (by have := HI1.out.2.2.2.2.1; omega) (batchF 2 Lb) hbb.2 hnf C (by omega)
      obtain ⟨csy, hry, hray⟩ := HY7.out.rd
      have hcl : l1.count ≤ 6 := by rw [HI1.out.1.count, batchF_length]; have := HV.out.2.2.1; omega
      have HC7 := Lib.hid (commit_sys HS7.out HI1.out.1.und hry hray (by have := HI1.out.2.2.2.1; omega) (by have := HI1.out.2.2.2.2.1; omega) (by show _ ≤ s1.sure.length / 2; rw [HI1.out.2.2.1]; have := HI1.out.2.2.2.2.2; omega) (by rw [batchF_length]; have := HV.out.2.2.2; omega) hco2)
      have hout : ∃ l3 out, Inv (s2.crash keep (-1) 0) l3 out ∧ (out = batchF 1 La ∨ out = batchF 1 La ++ batchF 2 Lb) ∧ (e2 = 0 → out = batchF 1 La ++ batchF 2 Lb) := by
        obtain ⟨l3, ⟨q1, q2⟩ | ⟨q1, q2 | q2⟩⟩ := hcr keep
        · exact ⟨l3, _, q2, .inr rfl, fun _ => rfl⟩
        · exact ⟨l3, _, q2, .inl rfl, fun h => absurd h q1⟩
        · exact ⟨l3, _, q2, .inr rfl, fun _ => rfl⟩
      obtain ⟨l3, out, hI3, hor, he0⟩ := hout
      have HI3 := Lib.hid (And.intro hI3 (And.intro hor he0))
      clear hbb hbn hnf hco2 hok2 hz2 hn2 hcr hry hray hcl hI3 hor he0
      go_wp2_with fail
      refine HC7.out.mono ?_
      rintro e w8 ⟨rfl, H8⟩
      have HX8 := Lib.hid (HS7.out.log.keepR H8.out.2 (fun _ h => h) HX7.out)
      have HY8 := Lib.hid (HS7.out.log.keepR H8.out.2 (fun _ h => h) HY7.out)
      have HC8 := Lib.hid (crash_dsk H8.out.1.dsk keep HKM.out.1 (-1) 0)
      go_wp2_with fail
      refine HC8.out.mono ?_
      rintro e w9 ⟨rfl, H9⟩
      have HX9 := Lib.hid (H8.out.1.log.disk.keepR H9.out.2 (fun _ h => h) HX8.out)
      have HY9 := Lib.hid (H8.out.1.log.disk.keepR H9.out.2 (fun _ h => h) HY8.out)
      have HC9 := Lib.hid (cut_dsk H9.out.1 D (by omega))
      go_wp2_with fail
      refine HC9.out.mono ?_
      rintro e w10 ⟨rfl, H10⟩
      have HX10 := Lib.hid (H9.out.1.disk.keepR H10.out.2 (fun _ h => h) HX9.out)
      have HY10 := Lib.hid (H9.out.1.disk.keepR H10.out.2 (fun _ h => h) HY9.out)
      have HO10 := Lib.hid (open_dsk H10.out.1)
      go_wp2_with fail
      refine HO10.out.mono ?_
      rintro e w11 ⟨r11, rfl, H11⟩
      have HX11 := Lib.hid (HX10.out.new_ext H11.out.2)
      have HY11 := Lib.hid (HY10.out.new_ext H11.out.2)
      have HC11 := Lib.hid (crash_dsk H11.out.1 more HKM.out.2 (-1) 0)
      go_wp2_with fail
      refine HC11.out.mono ?_
      rintro e w12 ⟨rfl, H12⟩
      have HX12 := Lib.hid (H11.out.1.disk.keepR H12.out.2 (fun _ h => h) HX11.out)
      have HY12 := Lib.hid (H11.out.1.disk.keepR H12.out.2 (fun _ h => h) HY11.out)
      have HO12 := Lib.hid (open_sys H12.out.1 (HI3.out.1.calm D (by omega) more))
      go_wp2_with fail
      refine HO12.out.mono ?_
      rintro e w13 ⟨lp2, um2, va13, vc13, rfl, H13⟩
      have hx23 : Ext (fun _ => False) w12 w13 := Ext.of_below H13.out.2.2.1 (Nat.le_refl _)
      obtain ⟨csx, hrx, hrax, hox⟩ := two_app (HX12.out.new_ext hx23)
      obtain ⟨csy, hry, hray, hoy⟩ := two_app (HY12.out.new_ext hx23)
      rw [batchF_length, HV.out.2.2.1] at hrx
      rw [batchF_length, HV.out.2.2.2] at hry
      have HXY := Lib.hid (And.intro hrx (And.intro hrax (And.intro hox (And.intro hry (And.intro hray hoy)))))
      have HX13 := Lib.hid (HX12.out.new_ext hx23)
      have hg13 : g + 1 ≤ w13.heap.size := H13.out.1.log.disk.lt.2.1
      have HG := Lib.hid hg13
      clear hx23 hrx hrax hox hry hray hoy hg13
      have hnil : w13.ownsRow (g + 1) 33 1 (.slice none 0 0) 0 [] := ⟨rfl, .inl ⟨rfl, rfl⟩⟩
      have HNIL := Lib.hid hnil
      clear hnil
      have hstep : Hid (∀ v14 w14, w14.ownsRow (g + 1) 33 1 v14 (0 + na) ([] ++ csx) → w13.grownBy w14 (Value.slice none 0 0).ownBlock → (v14.ownBlock = (Value.slice none 0 0).ownBlock ∨ v14.ownBlock = some w13.heap.size) →
          (∃ a14 c14, v14 = .slice a14 na c14 ∧ Hid (w14.ownsRow (g + 1) 33 1 (.slice a14 na c14) na csx ∧ Ext (fun _ => False) w13 w14 ∧ g + 1 ≤ w14.heap.size ∧ Rd w14 33 1 (.slice ay nb cy) nb csy ∧ RecsAt w14 csx (batchF 1 La) ∧ RecsAt w14 csy (batchF 2 Lb) ∧
            ∀ v15 w15, w15.ownsRow (g + 1) 33 1 v15 (na + nb) (csx ++ csy) → w14.grownBy w15 (Value.slice a14 na c14).ownBlock → (v15.ownBlock = (Value.slice a14 na c14).ownBlock ∨ v15.ownBlock = some w14.heap.size) →
              ∃ a15 c15, v15 = .slice a15 (na + nb) c15 ∧ Hid (Recs w15 g (.slice a15 (na + nb) c15) (batchF 1 La ++ batchF 2 Lb) ∧ Ext (fun _ => False) w13 w15))) ) := by
        intro v14 w14 o1 o2 o3
        simp only [Nat.zero_add, List.nil_append] at o1
        obtain ⟨a14, c14, rfl⟩ := (Rd.of_own o1).form
        have hx : Ext (fun _ => False) w13 w14 := Ext.of_grown o2 (fun k h => by simp [Value.ownBlock] at h)
        have hk := hx.keepT (e := 33) (fun _ _ _ _ => id)
        have hk5 := hx.keepT (e := 5) (fun _ _ _ _ => id)
        refine ⟨a14, c14, rfl, o1, hx, Nat.le_trans HG.out hx.size, HXY.out.2.2.2.1.kept hk, HXY.out.2.1.kept hk5, HXY.out.2.2.2.2.1.kept hk5, ?_⟩
        intro v15 w15 q1 q2 q3
        obtain ⟨a15, c15, rfl⟩ := (Rd.of_own q1).form
        have hk6 := grown_keepT (e' := 5) o1 q2 (by decide)
        refine ⟨a15, c15, rfl, ⟨csx ++ csy, ?_, ((HXY.out.2.1.kept hk5).kept hk6).app ((HXY.out.2.2.2.2.1.kept hk5).kept hk6)⟩, hx.andThen (Ext.of_grown (S := fun k => (Value.slice a14 na c14).ownBlock = some k) q2 (fun k h => h)) (fun i hi hs => ?_)⟩
        · rw [List.length_append, batchF_length, batchF_length, HV.out.2.2.1, HV.out.2.2.2]
          exact q1
        · rcases o3 with o3 | o3
          · rw [o3] at hs
            simp [Value.ownBlock] at hs
          · rw [o3] at hs
            simp at hs
            omega
      have hend : ∀ w15 (a15 : Option Addr) (c15 : Nat), Recs w15 g (.slice a15 (na + nb) c15) (batchF 1 La ++ batchF 2 Lb) → Ext (fun _ => False) w13 w15 → Recs w15 g (.slice va13 out.length vc13) out ∧ Recs w15 g (.slice ax na cx) (batchF 1 La) ∧ Below w.heap.size w w15 :=
        fun w15 a15 c15 h1 h2 => ⟨H13.out.2.1.new_ext h2, HX13.out.new_ext h2, H13.out.1.below.trans ((h2.below (fun _ _ h => h) (Nat.le_refl _)).mono H13.out.1.below.size)⟩
      have HEND := Lib.hid hend
      clear hend
      by_cases he : e2 = 0
      · subst he
        have HOUT := Lib.hid (HI3.out.2.2 rfl)
        go_wp2_with (first | (at_builtin; refine wpList_app rfl (.const (.slice none 0 0)) (.tmp 80) 26 rfl (g + 1) 33 1 24 (.slice none 0 0) Try.underlying26 (by kernel_rfl) rfl (by omega) (.slice none 0 0) 0 [] rfl HNIL.out _ na csx 33 rfl HXY.out.1 HXY.out.2.2.1 (by simp only [maxLen]; omega) (by omega) HG.out ?_; intro v14 w14 o1 o2 o3; obtain ⟨a14, c14, rfl, H14⟩ := hstep.out v14 w14 o1 o2 o3; clear o1 o2 o3) | (at_builtin; refine wpList_app rfl (.tmp 81) (.tmp 82) 26 rfl (g + 1) 33 1 24 (.slice none 0 0) Try.underlying26 (by kernel_rfl) rfl (by omega) (.slice a14 na c14) na csx rfl H14.out.1 _ nb csy 33 rfl H14.out.2.2.2.1 HXY.out.2.2.2.2.2 (by simp only [maxLen]; omega) (by omega) H14.out.2.2.1 ?_; intro v15 w15 o1 o2 o3; obtain ⟨a15, c15, rfl, H15⟩ := H14.out.2.2.2.2.2.2 v15 w15 o1 o2 o3; clear o1 o2 o3))
        obtain ⟨q1, q2, q3⟩ := HEND.out _ _ _ H15.out.1 H15.out.2
        have hsm : Calls Try.prog 33 #[.slice va13 out.length vc13, .slice a15 (na + nb) c15] w15 fun e w2 => e = .returned (.bool true) ∧ Hid (Below w.heap.size w w2) := by
          refine (same_recs q1 H15.out.1).mono ?_
          rintro e w2 ⟨rfl, hx2⟩
          exact ⟨by rw [decide_eq_true HOUT.out], q3.trans ((hx2.out.below (fun _ _ h => h) (Nat.le_refl _)).mono q3.size)⟩
        have HSM := Lib.hid hsm
        clear hsm q1 q2 q3
        go_wp2_with fail
        refine HSM.out.mono ?_
        rintro e w16 ⟨rfl, H16⟩
        go_wp2_with fail
        go_ret
        exact ⟨rfl, H16.out⟩
      · have he1 : (e2 == 0) = false := by simpa using he
        go_wp2_with (first | (at_builtin; refine wpList_app rfl (.const (.slice none 0 0)) (.tmp 80) 26 rfl (g + 1) 33 1 24 (.slice none 0 0) Try.underlying26 (by kernel_rfl) rfl (by omega) (.slice none 0 0) 0 [] rfl HNIL.out _ na csx 33 rfl HXY.out.1 HXY.out.2.2.1 (by simp only [maxLen]; omega) (by omega) HG.out ?_; intro v14 w14 o1 o2 o3; obtain ⟨a14, c14, rfl, H14⟩ := hstep.out v14 w14 o1 o2 o3; clear o1 o2 o3) | (at_builtin; refine wpList_app rfl (.tmp 81) (.tmp 82) 26 rfl (g + 1) 33 1 24 (.slice none 0 0) Try.underlying26 (by kernel_rfl) rfl (by omega) (.slice a14 na c14) na csx rfl H14.out.1 _ nb csy 33 rfl H14.out.2.2.2.1 HXY.out.2.2.2.2.2 (by simp only [maxLen]; omega) (by omega) H14.out.2.2.1 ?_; intro v15 w15 o1 o2 o3; obtain ⟨a15, c15, rfl, H15⟩ := H14.out.2.2.2.2.2.2 v15 w15 o1 o2 o3; clear o1 o2 o3))
        obtain ⟨q1, q2, q3⟩ := HEND.out _ _ _ H15.out.1 H15.out.2
        have hend : Calls Try.prog 33 #[.slice va13 out.length vc13, .slice ax na cx] w15 fun e w1 => ∃ b, e = .returned (.bool b) ∧ (b = false → Hid (Calls Try.prog 33 #[.slice va13 out.length vc13, .slice a15 (na + nb) c15] w1 fun e w2 => e = .returned (.bool true) ∧ Hid (Below w.heap.size w w2))) ∧ Hid (Below w.heap.size w w1) := by
          refine (twice_end q1 q2 H15.out.1 HI3.out.2.1).mono ?_
          rintro e w1 ⟨b, rfl, h1, h2⟩
          have hb1 : Below w.heap.size w w1 := q3.trans ((h2.out.below (fun _ _ h => h) (Nat.le_refl _)).mono q3.size)
          refine ⟨b, rfl, fun hb => ?_, hb1⟩
          refine (h1 hb).out.mono ?_
          rintro e w2 ⟨rfl, h3⟩
          exact ⟨rfl, q3.trans ((h3.out.below (fun _ _ h => h) (Nat.le_refl _)).mono q3.size)⟩
        have HE := Lib.hid hend
        clear hend q1 q2 q3
        go_wp2_with fail
        refine HE.out.mono ?_
        rintro e w16 ⟨b, rfl, h16, H16⟩
        cases b with
        | true =>
          clear h16
          go_wp2_with fail
          go_ret
          exact ⟨rfl, H16.out⟩
        | false =>
          have H17 := h16 rfl
          clear h16
          go_wp2_with fail
          refine H17.out.mono ?_
          rintro e w17 ⟨rfl, H18⟩
          go_wp2_with fail
          go_ret
          exact ⟨rfl, H18.out⟩
theorem twice_row {a0 : Option Addr} {len0 cap0 : Nat} {z0 : List Int} {a1 : Option Addr} {len1 cap1 : Nat} {z1 : List Int} {a2 a3 a4 a5 : Int} (w : World)
    (w0 : (a0 = none ∧ len0 = 0 ∧ cap0 = 0 ∧ z0 = []) ∨ ∃ x, a0 = some x ∧ len0 ≤ cap0 ∧ cap0 ≤ maxLen ∧ z0.length = cap0 ∧ (∀ i, i < z0.length → w.cell? (x.add i) = some (.int .u8 (z0.getD i 0))) ∧ ∀ n ∈ z0, (Lit.int .u8 n).wf = true)
    (w1 : (a1 = none ∧ len1 = 0 ∧ cap1 = 0 ∧ z1 = []) ∨ ∃ x, a1 = some x ∧ len1 ≤ cap1 ∧ cap1 ≤ maxLen ∧ z1.length = cap1 ∧ (∀ i, i < z1.length → w.cell? (x.add i) = some (.int .u8 (z1.getD i 0))) ∧ ∀ n ∈ z1, (Lit.int .u8 n).wf = true)
    (w2 : (Lit.int .u8 a2).wf = true) (w3 : (Lit.int .u8 a3).wf = true) (w4 : (Lit.int .u64 a4).wf = true) (w5 : (Lit.int .u64 a5).wf = true) :
    Calls Try.prog 11 #[.slice a0 len0 cap0, .slice a1 len1 cap1, .int .u8 a2, .int .u8 a3, .int .u64 a4, .int .u64 a5] w fun e w' => e = .returned (.bool true) ∧ Below w.heap.size w w' := by
  obtain ⟨La, hLa⟩ := bytes_row w0
  obtain ⟨Lb, hLb⟩ := bytes_row w1
  have h4 := wf_u64 w4
  have h5 := wf_u64 w5
  have := twice_law _ _ _ _ La Lb a2 a3 a4.toNat a5.toNat (wf_u8 w2) (wf_u8 w3) (by omega) (by omega) w hLa hLb
  rw [Int.toNat_of_nonneg h4.1, Int.toNat_of_nonneg h5.1] at this
  exact this
end Go.Proofs.Ytekolejeliefdaa
