/- The log: a frame is laid, walked. -/
import Derived.Test.YtekolejeliefdaaGreatWalD
set_option linter.unusedVariables false
set_option linter.unusedSimpArgs false
namespace Go.Proofs.YtekolejeliefdaaGreat
open Go.RowKit
variable {X : Nat → Prop}

/-- How the log is behind the last k sectors' writes. -/
def undoF (b : Bool) (from_ turn : Nat) : ME := if b then [(.int .i64 from_, .int .u64 turn)] else []

theorem LogAt.mapped {w w1 : World} {lp um p g m : Nat} {l : LS} {s : DS} {l' : ME} (h : LogAt X w lp um l p g m s) (hm : MapL Tryz.prog 3 w1 um l') (ht : w.mapTurned w1 um) : LogAt X w1 lp um { l with undone := l' } p g m s := by
  obtain ⟨a1, a2, a3, a4, a5, a6, a7⟩ := h.apart
  have hx := mapTurned_ext ht
  exact ⟨(hx.block _ h.lt.1 a1).trans h.blk, hm, h.disk.kept_ext hx (Ne.symm a5) (Ne.symm a6) (Ne.symm a7) (mapTurned_keepT ht _), h.ne, h.off⟩
theorem DS.flush_or (s : DS) : s.flush.2 = 0 ∨ s.flush.2 = 32 := by
  unfold DS.flush
  split
  · exact .inr rfl
  · split
    · exact .inr rfl
    · exact .inl rfl
/-- Flush, with the log over the disk. -/
theorem flush_log {w : World} {lp um p g m : Nat} {l : LS} {s : DS} (h : LogAt X w lp um l p g m s) (e0 : Int) (he : s.flush.2 = e0) : Calls Tryz.prog 161 #[.pointer (some ⟨p, 0, none⟩)] w fun e w' =>
    e = .returned (.int .i64 e0) ∧ w'.cell? ⟨lp, 0, none⟩ = some (.pointer (some ⟨p, 0, none⟩)) ∧ w'.cell? ⟨lp, 5, none⟩ = some (.map (some um)) ∧ Hid (LogAt X w' lp um l p g m s.flush.1 ∧ Ext (fun k => k = p ∨ k = g ∨ k = m) w w' ∧ KeepT 5 w w') := by
  refine (flush_any h.disk).mono ?_
  rintro e w' ⟨rfl, hd, hx⟩
  have hl := h.went hx (fun k hk => hk) hd
  exact ⟨by rw [he], by rw [cell_of_block hl.blk]; rfl, by rw [cell_of_block hl.blk]; rfl, hl, hx, h.disk.keepB hx (fun k hk => hk)⟩

/-- Write, with the log over the disk. -/
theorem write_log {w : World} {lp um p g m : Nat} {l : LS} {s : DS} (h : LogAt X w lp um l p g m s) (i : Int) {v : Value} {n : Nat} {b : List UInt8} (hv : Rd w 5 1 v n (u8s b)) (E : Int) (hE : (s.write i b).2 = E) : Calls Tryz.prog 162 #[.pointer (some ⟨p, 0, none⟩), .int .i64 i, v] w fun e w' =>
    e = .returned (.int .i64 E) ∧ w'.cell? ⟨lp, 0, none⟩ = some (.pointer (some ⟨p, 0, none⟩)) ∧ w'.cell? ⟨lp, 5, none⟩ = some (.map (some um)) ∧ Hid (LogAt X w' lp um l p g m (s.write i b).1 ∧ Ext (fun k => k = p ∨ k = g ∨ k = m) w w' ∧ KeepT 5 w w') := by
  refine (write_any h.disk i hv).mono ?_
  rintro e w' ⟨rfl, hd, hx⟩
  have hx' : Ext (fun k => k = p ∨ k = g ∨ k = m) w w' := hx.mono (fun k _ hk => by rcases hk with h | h <;> simp [h])
  have hl := h.went hx' (fun k hk => hk) hd
  exact ⟨by rw [hE], by rw [cell_of_block hl.blk]; rfl, by rw [cell_of_block hl.blk]; rfl, hl, hx', h.disk.keepB hx' (fun k hk => hk)⟩
theorem sec_rest {Z z : Nat} (hz : z + 16 = Z) (t : List UInt8) (ht : t.length ≤ z) : (cut3 (madeCells #[.int .u8 0] Z) 0 (u8s t)).toList = u8s t ++ u8s (List.replicate (z - t.length) 0) ++ (u8s (List.replicate 8 0) ++ u8s (List.replicate 8 0)) := by
  have h1 : (madeCells #[.int .u8 0] Z).toList = [] ++ u8s (List.replicate t.length 0) ++ (u8s (List.replicate (z - t.length) 0) ++ (u8s (List.replicate 8 0) ++ u8s (List.replicate 8 0))) := by
    rw [madeCells_one, ← u8s_replicate]
    simp only [u8s, List.nil_append, ← List.map_append, List.replicate_append_replicate]
    congr 2
    omega
  rw [cut3_list (off := 0) h1 rfl (by simp [u8s])]
  simp
theorem sec_cells {Z z turn next J : Nat} {b : List UInt8} {k : Nat} (hz : z + 16 = Z) (hJ : (k + 1) * z = J) :
    (cut3 (madeCells #[.int .u8 0] Z) 0 (u8s ((b.drop J).take z))).toList = u8s (secF z turn next b (k + 1)) := by
  rw [sec_rest hz _ (by rw [List.length_take]; omega)]
  unfold secF
  rw [hJ, if_neg (by omega)]
  simp only [u8s, ← List.map_append, List.append_assoc]
  rfl
theorem sec_cells0 {Z z turn next J : Nat} {b : List UInt8} (hz : z + 16 = Z) (hJ : 0 * z = J) :
    (cut3 (cut3 (cut3 (madeCells #[.int .u8 0] Z) 0 (u8s ((b.drop J).take z))) z (u8s (putF 8 turn))) (z + 8) (u8s (putF 8 ((next + 1) % 18446744073709551616)))).toList = u8s (secF z turn next b 0) := by
  have h1 := sec_rest hz ((b.drop J).take z) (by rw [List.length_take]; omega)
  have hl : (u8s ((b.drop J).take z) ++ u8s (List.replicate (z - ((b.drop J).take z).length) 0)).length = z := by
    have : ((b.drop J).take z).length ≤ z := by rw [List.length_take]; omega
    simp only [u8s, List.length_append, List.length_map, List.length_replicate]
    omega
  rw [← List.append_assoc] at h1
  have h2 := cut3_list (xs := u8s (putF 8 turn)) h1 hl (by simp [u8s])
  have h3 := cut3_list (xs := u8s (putF 8 ((next + 1) % 18446744073709551616))) (off := z + 8) (r := []) (by rw [h2, List.append_nil]) (by rw [List.length_append, hl]; simp [u8s]) (by simp [u8s])
  rw [h3]
  unfold secF
  rw [hJ, if_pos rfl]
  simp only [u8s, ← List.map_append, List.append_assoc, List.append_nil]
theorem secs_le {z n k : Nat} (hz : 0 < z) (h : k < secsF z n) : k * z ≤ n := by
  have h1 := Nat.div_add_mod n z
  have h2 : k ≤ n / z := by unfold secsF at h; omega
  have h3 : k * z ≤ n / z * z := Nat.mul_le_mul_right z h2
  rw [Nat.mul_comm (n / z) z] at h3
  omega
set_option maxRecDepth 100000 in
set_option maxHeartbeats 4000000 in
theorem lay_any {w : World} {lp um p g m : Nat} {l : LS} {s : DS} (h : LogAt X w lp um l p g m s) (hu : l.undone = []) {v : Value} {n : Nat} {b : List UInt8} (hv : Rd w 5 1 v n (u8s b)) (turn next a : Nat)
    (ht : turn < 18446744073709551616) (hn : next < 18446744073709551616) (h0 : 0 < n) (ha : a + secsF (s.size - 16) n ≤ s.sure.length / 2) :
    Calls Tryz.prog 143 #[.pointer (some ⟨lp, 0, none⟩), .int .u64 turn, .int .u64 next, .int .i64 a, v] w fun e w' =>
      e = .returned (.int .i64 (layF (turn % 2 * (s.sure.length / 2) + a) turn next b s).2.1) ∧
      LogAt X w' lp um { l with undone := undoF (layF (turn % 2 * (s.sure.length / 2) + a) turn next b s).2.2 (turn % 2 * (s.sure.length / 2) + a) turn } p g m (layF (turn % 2 * (s.sure.length / 2) + a) turn next b s).1 ∧ Ext (fun k => k = p ∨ k = g ∨ k = m ∨ k = um) w w' := by
  have hbl : b.length = n := by have := hv.1; simpa [u8s] using this
  obtain ⟨va, vc, rfl⟩ := hv.form
  have hz1 := h.disk.ok.z1
  have hz2 := h.disk.ok.z2
  have hN := h.disk.ok.n2
  obtain ⟨F, hF⟩ : ∃ F, turn % 2 * (s.sure.length / 2) + a = F := ⟨_, rfl⟩
  have hFl : F ≤ 4096 := by
    have : turn % 2 * (s.sure.length / 2) ≤ 1 * 2048 := Nat.mul_le_mul (by omega) (by omega)
    omega
  rw [hF]
  have H0 := Lib.hid (And.intro h hv)
  have HH := Lib.hid (half_any h)
  have HU := Lib.hid (undo_any h hu)
  obtain ⟨y, hy⟩ : ∃ y, s.sure.length / 2 = y := ⟨_, rfl⟩
  rw [hy] at HH hF ha
  have hy2 : y ≤ 2048 := by omega
  have hF1 : ((turn % 2 : Nat) : Int) * (y : Int) = ((turn % 2 * y : Nat) : Int) := by push_cast; rfl
  have h11 : wrap64 (wrap64 ((turn : Int) % 2 * (y : Int)) + (a : Int)) = (F : Int) := by
    have q : (turn : Int) % 2 * (y : Int) = ((turn % 2 * y : Nat) : Int) := by push_cast; rfl
    rw [q]
    obtain ⟨T, hT⟩ : ∃ T, turn % 2 * y = T := ⟨_, rfl⟩
    rw [hT] at hF ⊢
    rw [IntWalk.wrap64_in (T : Int) (by omega), IntWalk.wrap64_in _ (by omega)]
    omega
  clear hF hF1
  obtain ⟨z, hz⟩ : ∃ z, s.size - 16 = z := ⟨_, rfl⟩
  have hn63 : n ≤ 9223372036854775807 := by have := hv.2.1; simp only [maxLen] at this; omega
  have HS := Lib.hid (sectors_any' h n hn63)
  obtain ⟨N, hNN⟩ : ∃ N, secsF z n = N := ⟨_, rfl⟩
  rw [hz, hNN] at HS
  rw [hz, hNN] at ha
  have hN1 : 1 ≤ N := by
    have h1 := Nat.div_add_mod n z
    rw [← hNN]
    unfold secsF
    rcases Nat.eq_zero_or_pos (n % z) with h2 | h2
    · rcases Nat.eq_zero_or_pos (n / z) with h3 | h3
      · rw [h2, h3, Nat.mul_zero] at h1
        omega
      · exact Nat.le_trans h3 (Nat.le_add_right _ _)
    · have : 1 ≤ min (n % z) 1 := by omega
      exact Nat.le_trans this (Nat.le_add_left _ _)
  have hmk : ∀ W : World, (Instr.makeSlice 114 (.int .i64 s.size) (.int .i64 s.size)).run Tryz.prog W = .ok (.slice (some ⟨W.heap.size, 0, none⟩) s.size s.size) (W.alloc (.cells (madeCells #[.int .u8 0] s.size) 5)) :=
    fun W => run_make_row' 114 5 (.int .u8 0) 1 Tryz.underlying114 (by kernel_rfl) rfl .i64 .i64 s.size (by omega) (by omega) W
  have hst : Hid (∃ sk, LogAt X w.drew lp um { l with undone := undoF (decide (N = 0)) F turn } p g m sk ∧ layL F turn next z b N s = layL F turn next z b N sk ∧ sk.size = s.size ∧ sk.sure.length = s.sure.length ∧ Ext (fun k => k = p ∨ k = g ∨ k = m ∨ k = um) w w.drew) := by
    refine ⟨s, ?_, rfl, rfl, rfl, (Ext.refl _ w).drew⟩
    have e1 : undoF (decide (N = 0)) F turn = l.undone := by
      rw [hu, decide_eq_false (by omega)]
      rfl
    rw [e1]
    exact h.drew
  clear h hv
  go_enter Tryz.func143, Tryz.ntmps143
  go_wp2_with (first | (go_at_call 153; refine HH.out.mono ?_; rintro e w' ⟨rfl, rfl⟩) | (go_at_call 159; refine HU.out.mono ?_; rintro e w' ⟨rfl, rfl⟩) | (go_at_call 132; refine HS.out.mono ?_; rintro e w' ⟨rfl, rfl⟩))
  go_loopw [13] (fun i wr => ∃ k : Nat, k ≤ N ∧ i = .int .i64 ((k : Int) - 1) ∧ Hid (∃ sk, LogAt X wr lp um { l with undone := undoF (decide (k = 0)) F turn } p g m sk ∧ layL F turn next z b N s = layL F turn next z b k sk ∧ sk.size = s.size ∧ sk.sure.length = s.sure.length ∧ Ext (fun k => k = p ∨ k = g ∨ k = m ∨ k = um) w wr)) (fun i _ => (intOf i + 1).toNat)
  case atStart => exact ⟨N, by omega, rfl, hst⟩
  case round =>
    obtain ⟨k, hk, rfl, hin⟩ := hrel
    rcases k with _ | k
    · obtain ⟨sk, hl, hlay, hd1, hd2, hx⟩ := hin.out
      have c0 := cell_of_block hl.blk 0
      simp at c0
      have hres : layF F turn next b s = (sk.flush.1, sk.flush.2, decide (sk.flush.2 ≠ 0)) := by
        simp only [layF, hz, hbl, hNN, hlay, layL]
        simp
      have HRES := Lib.hid hres
      rcases sk.flush_or with he | he
      · have HFL := Lib.hid (flush_log hl 0 he)
        have hcl : Hid (∀ W, LogAt X W lp um { l with undone := undoF (decide (0 = 0)) F turn } p g m sk.flush.1 → ∃ cl, (Builtin.clear_ #[160] 0 #[.map (some um)]).run Tryz.prog W = .ok (.tuple #[]) (ChangeMaps.setBlock W um (.map #[] cl)) ∧ LogAt X (ChangeMaps.setBlock W um (.map #[] cl)) lp um { l with undone := [] } p g m sk.flush.1 ∧ Ext (· = um) W (ChangeMaps.setBlock W um (.map #[] cl))) := by
          intro W hW
          obtain ⟨cl, q1, q2, q3⟩ := hW.und.clear Tryz.underlying160 0
          exact ⟨cl, q1, hW.mapped q2 q3, mapTurned_ext q3⟩
        have HX := Lib.hid hx
        clear hres hl hlay hd1 hd2 hx hst hin H0
        go_wp2_with fail
        refine HFL.out.mono ?_
        rintro e w2 ⟨rfl, e0, e5, H2⟩
        obtain ⟨cl, hrun, hl3, hx3⟩ := hcl.out w2 H2.out.1
        have H3 := Lib.hid (And.intro hl3 hx3)
        clear hl3 hx3 hcl
        go_wp2
        go_ret
        rw [HRES.out]
        simp only [he]
        refine ⟨rfl, H3.out.1, ((HX.out.trans (H2.out.2.1.mono ?_)).trans (H3.out.2.mono ?_))⟩
        · intro k _ hk; rcases hk with h | h | h <;> simp [h]
        · intro k _ hk; simp [hk]
      · have HFL := Lib.hid (flush_log hl 32 he)
        have HX := Lib.hid hx
        clear hres hl hlay hd1 hd2 hx hst hin H0
        go_wp2_with fail
        refine HFL.out.mono ?_
        rintro e w2 ⟨rfl, e0, e5, H2⟩
        go_wp2
        go_ret
        rw [HRES.out]
        simp only [he]
        refine ⟨rfl, H2.out.1, HX.out.trans (H2.out.2.1.mono ?_)⟩
        intro k _ hk; rcases hk with h | h | h <;> simp [h]
    · obtain ⟨sk, hl, hlay, hd1, hd2, hx⟩ := hin.out
      have c0 := cell_of_block hl.blk 0
      simp at c0
      have HSZ := size_any hl.disk
      rw [hd1] at HSZ
      have HSZ' := Lib.hid HSZ
      have HX := Lib.hid (And.intro hl (And.intro hlay (And.intro hd1 (And.intro hd2 hx))))
      clear HSZ hl hlay hd1 hd2 hx hst hin
      go_wp2_with fail
      refine HSZ'.out.mono ?_
      rintro e w2 ⟨rfl, rfl⟩
      go_wp2_with fail
      have hLA : LogAt (fun q => X q ∨ q = wr.heap.size) (wr.alloc (.cells (madeCells #[.int .u8 0] s.size) 5)) lp um { l with undone := undoF (decide (k + 1 = 0)) F turn } p g m sk :=
        HX.out.1.fresh _
      have hxb : (wr.alloc (.cells (madeCells #[.int .u8 0] s.size) 5)).heap[wr.heap.size]? = some (.cells (madeCells #[.int .u8 0] s.size) 5 (0, 0)) := heap_alloc_new wr _
      have hsz2 := size_any' hLA.drew
      rw [HX.out.2.2.1, hz] at hsz2
      have hbv : Rd (wr.alloc (.cells (madeCells #[.int .u8 0] s.size) 5)).drew 5 1 (.slice va n vc) n (u8s b) := by
        have hx2 : Ext (fun _ => False) wr (wr.alloc (.cells (madeCells #[.int .u8 0] s.size) 5)).drew := ((Ext.refl _ wr).alloc _).drew
        refine (H0.out.2.kept ?_).kept (hx2.keepT (fun _ _ _ _ => id))
        intro b' cur fr hb
        refine (HX.out.2.2.2.2.block b' (lt_of_heap hb) ?_).trans hb
        intro hq
        have hLL := H0.out.1
        obtain ⟨sv, hpb, cap, c2, _, hg, _⟩ := hLL.disk.blk
        obtain ⟨l', hm, _⟩ := hLL.disk.map
        rcases hq with rfl | rfl | rfl | rfl
        · rw [hpb] at hb; simp at hb
        · rw [hg] at hb; simp at hb
        · exact hm.noCells _ _ _ hb
        · exact hLL.und.noCells _ _ _ hb
      have hkz : k * z ≤ n := secs_le (by omega) (by omega)
      obtain ⟨J, hJ⟩ : ∃ J, k * z = J := ⟨_, rfl⟩
      rw [hJ] at hkz
      obtain ⟨u2, q2, r2, o2⟩ := hbv.cut_l (P := Tryz.prog) (t := 114) Tryz.underlying114 Tryz.sizeOf5 J hkz
      have hmul : IntKind.i64.wrap ((k : Int) * (z : Int)) = (J : Int) := by
        have q : (k : Int) * (z : Int) = ((k * z : Nat) : Int) := by push_cast; rfl
        rw [← hJ]
        rw [q, IntWalk.i64_left, IntWalk.wrap64_in _ (by omega)]
      have hzs : z ≤ s.size := by omega
      have HSZ2 := Lib.hid hsz2
      have hrb : Rd (wr.alloc (.cells (madeCells #[.int .u8 0] s.size) 5)).drew 5 1 u2 (n - J) (u8s (b.drop J)) := by
        have e : (u8s b).drop (J * 1) = u8s (b.drop J) := by simp [u8s]
        rw [← e]
        exact r2
      have HCP := Lib.hid (copy_bytes (w := (wr.alloc (.cells (madeCells #[.int .u8 0] s.size) 5)).drew) (g := wr.heap.size) (o := 0) (dLen := z) (dCap := s.size) hxb (by simp [madeCells]; omega) hrb)
      have HLA := Lib.hid (And.intro hLA (And.intro hxb r2))
      clear hrb
      have hS0 : True := trivial
      have HJ := Lib.hid hJ
      clear hsz2 hLA hxb r2 hbv hJ
      refine region_X (fun W => True) (by kernel_rfl) ?_
      simp only [List.length_cons, List.length_nil, Nat.reduceAdd]
      refine AnyX.take 0 rfl (by kernel_rfl) (fun _ _ _ h => h) hS0 rfl (by rintro W _; go_simp; rfl) ?_; simp only [Act.put, List.setIfInBounds_toArray, List.set_cons_succ, List.set_cons_zero]
      refine AnyX.take 1 rfl (by kernel_rfl) (fun _ _ _ h => h) hS0 rfl (by rintro W _; go_simp; rfl) ?_; simp only [Act.put, List.setIfInBounds_toArray, List.set_cons_succ, List.set_cons_zero]
      refine AnyX.take 4 rfl (by kernel_rfl) (fun _ _ _ h => h) hS0 rfl (by rintro W _; go_simp; rfl) ?_; simp only [Act.put, List.setIfInBounds_toArray, List.set_cons_succ, List.set_cons_zero]
      refine AnyX.take 5 rfl (by kernel_rfl) (fun _ _ _ h => h) hS0 rfl (by rintro W _; go_simp; rfl) ?_; simp only [Act.put, List.setIfInBounds_toArray, List.set_cons_succ, List.set_cons_zero]
      refine AnyX.take 6 rfl (by kernel_rfl) (fun _ _ _ h => h) hS0 rfl (by rintro W _; go_simp; rfl) ?_; simp only [Act.put, List.setIfInBounds_toArray, List.set_cons_succ, List.set_cons_zero]
      refine AnyX.act 2 rfl (by kernel_rfl) rfl (fun K hK => ?_)
      go_wp2_with (go_at_call 129; refine HSZ2.out.mono ?_; rintro e w' ⟨rfl, rfl⟩)
      refine hK _ _ hS0 ?_
      clear hK K
      refine AnyX.take 3 rfl (by kernel_rfl) (fun _ _ _ h => h) hS0 rfl (by rintro W _; go_simp; rfl) ?_; simp only [Act.put, List.setIfInBounds_toArray, List.set_cons_succ, List.set_cons_zero]
      refine AnyX.act 7 rfl (by kernel_rfl) rfl (fun K hK => ?_)
      go_wp2_with (go_at_call 129; refine HSZ2.out.mono ?_; rintro e w' ⟨rfl, rfl⟩)
      refine hK _ _ hS0 ?_
      clear hK K
      refine AnyX.take 8 rfl (by kernel_rfl) (fun _ _ _ h => h) hS0 rfl (by rintro W _; go_simp; rfl) ?_; simp only [Act.put, List.setIfInBounds_toArray, List.set_cons_succ, List.set_cons_zero]
      refine AnyX.take 9 rfl (by kernel_rfl) (fun _ _ _ h => h) hS0 rfl (by rintro W _; go_simp; rfl) ?_; simp only [Act.put, List.setIfInBounds_toArray, List.set_cons_succ, List.set_cons_zero]
      refine AnyX.end_ 10 rfl (by kernel_rfl) (by kernel_rfl) (by kernel_rfl) rfl ?_
      obtain ⟨W1, hcp, hc1, hx1⟩ := HCP.out
      have hL1 := HLA.out.1.drew.wrote hx1 (fun q hq => .inr hq)
      have hsz3 := size_any' hL1
      rw [HX.out.2.2.1, hz] at hsz3
      have HSZ3 := Lib.hid hsz3
      have d0 := cell_of_block hL1.blk 0
      have d5 := cell_of_block hL1.blk 5
      simp at d0 d5
      have HL1 := Lib.hid (And.intro hL1 (And.intro hc1 hx1))
      clear hL1 hsz3 hc1 hx1 HCP HSZ2 HSZ' c0
      rcases k with _ | k
      · go_wp2_with (go_at_call 129; refine HSZ3.out.mono ?_; rintro e w' ⟨rfl, rfl⟩)
        have hcn : (cut3 (madeCells #[.int .u8 0] s.size) 0 (u8s ((b.drop J).take z))).size = s.size := by rw [cut3_size (by simp [u8s, madeCells]; omega)]; simp [madeCells]
        obtain ⟨NX, hNX⟩ : ∃ NX, (next + 1) % 18446744073709551616 = NX := ⟨_, rfl⟩
        have hnx : IntKind.u64.wrap ((next : Int) + 1) = (NX : Int) := by rw [IntKind.wrap_u64]; omega
        have hNX2 : NX < 18446744073709551616 := by omega
        have h8 : s.size - (z + 8) = 8 := by omega
        have HNX := Lib.hid hNX
        have hp1 : Calls Tryz.prog 160 #[.slice (some ⟨wr.heap.size, z, none⟩) 8 (s.size - z), .int .u64 turn] W1 fun e w' => e = .returned (.tuple #[]) ∧ w'.cell? ⟨lp, 0, none⟩ = some (.pointer (some ⟨p, 0, none⟩)) ∧
            Hid (w'.heap[wr.heap.size]? = some (.cells (cut3 (cut3 (madeCells #[.int .u8 0] s.size) 0 (u8s ((b.drop J).take z))) z (u8s (putF 8 turn))) 5 (0, 0)) ∧ Ext (· = wr.heap.size) W1 w' ∧ LogAt (fun q => X q ∨ q = wr.heap.size) w' lp um { l with undone := undoF (decide (0 + 1 = 0)) F turn } p g m sk) := by
          refine (put_any HL1.out.2.1 (by omega) (by rw [hcn]; omega) ht).mono ?_
          rintro e w' ⟨rfl, q1, q2⟩
          have hl := HL1.out.1.wrote q2 (fun q hq => .inr hq)
          exact ⟨rfl, by rw [cell_of_block hl.blk]; rfl, q1, q2, hl⟩
        have HP1 := Lib.hid hp1
        have HCN := Lib.hid hcn
        clear hp1 hcn hNX
        refine HP1.out.mono ?_
        rintro e w2 ⟨rfl, e0, H2⟩
        have hsz4 := size_any' H2.out.2.2
        rw [HX.out.2.2.1, hz] at hsz4
        have HSZ4 := Lib.hid hsz4
        clear hsz4 HP1
        go_wp2_with (go_at_call 129; refine HSZ4.out.mono ?_; rintro e w' ⟨rfl, rfl⟩)
        have hp2 : Calls Tryz.prog 160 #[.slice (some ⟨wr.heap.size, z + 8, none⟩) 8 8, .int .u64 NX] w2 fun e w' => e = .returned (.tuple #[]) ∧ w'.cell? ⟨lp, 0, none⟩ = some (.pointer (some ⟨p, 0, none⟩)) ∧
            Hid (Rd w' 5 1 (.slice (some ⟨wr.heap.size, 0, none⟩) s.size s.size) s.size (u8s (secF z turn next b 0)) ∧ Ext (fun k => k = p ∨ k = g ∨ k = m ∨ k = um) w w' ∧ LogAt (fun q => X q ∨ q = wr.heap.size) w' lp um { l with undone := undoF (decide (0 + 1 = 0)) F turn } p g m sk) := by
          have h9 := cut3_size (cur := cut3 (madeCells #[.int .u8 0] s.size) 0 (u8s ((b.drop J).take z))) (off := z) (xs := u8s (putF 8 turn)) (by rw [HCN.out]; simp [u8s]; omega)
          rw [HCN.out] at h9
          refine (put_any H2.out.1 (by omega) (by rw [h9]; omega) hNX2).mono ?_
          rintro e w' ⟨rfl, q1, q2⟩
          have hl := H2.out.2.2.wrote q2 (fun q hq => .inr hq)
          have e1 := sec_cells0 (turn := turn) (next := next) (b := b) (show z + 16 = s.size by omega) HJ.out
          rw [HNX.out] at e1
          have e2 : (u8s (secF z turn next b 0)).length = s.size := by
            rw [← e1, Array.length_toList, cut3_size (by rw [h9]; simp [u8s]; omega), h9]
          refine ⟨rfl, by rw [cell_of_block hl.blk]; rfl, ⟨by rw [e2]; omega, by simp only [maxLen]; omega, s.size, .inr ⟨wr.heap.size, 0, rfl, Nat.le_refl _, .inr ⟨_, (0, 0), q1, by rw [e1, List.drop_zero]; exact List.take_of_length_le (by omega)⟩⟩⟩, ?_, hl⟩
          have hx2 : Ext (fun _ => False) wr (wr.alloc (.cells (madeCells #[.int .u8 0] s.size) 5)).drew := ((Ext.refl _ wr).alloc _).drew
          exact (HX.out.2.2.2.2.trans (hx2.mono (fun _ _ h => h.elim))).andThen ((HL1.out.2.2.trans H2.out.2.1).trans q2) (fun i hi e => by have := HX.out.2.2.2.2.size; omega)
        have HP2 := Lib.hid hp2
        clear hp2
        refine HP2.out.mono ?_
        rintro e w3 ⟨rfl, e0', H3⟩
        clear HP2
        rcases sk.flush_or with he | he
        · have HFL := Lib.hid (flush_log H3.out.2.2 0 he)
          have HE := Lib.hid he
          have hkey : keyOf Tryz.prog 3 (.int .i64 (F : Int)) = some (.int .i64 (F : Int)) := Maps.keyOf_int_mk Tryz.underlying3 (WalkArith.wf_i64 (by omega))
          have hmu : Hid (∀ W, LogAt (fun q => X q ∨ q = wr.heap.size) W lp um { l with undone := undoF (decide (0 + 1 = 0)) F turn } p g m sk.flush.1 → ∃ W', (Instr.mapUpdate 160 (.map (some um)) (.int .i64 (F : Int)) (.int .u64 (turn : Int))).run Tryz.prog W = .ok () W' ∧ W'.cell? ⟨lp, 0, none⟩ = some (.pointer (some ⟨p, 0, none⟩)) ∧
              Hid (LogAt (fun q => X q ∨ q = wr.heap.size) W' lp um { l with undone := undoF true F turn } p g m sk.flush.1 ∧ Ext (· = um) W W' ∧ KeepT 5 W W')) := by
            intro W hW
            obtain ⟨W', q1, q2, q3⟩ := hW.und.store (Maps.int_keyed Tryz.underlying3) Tryz.underlying160 (by simp [undoF, maxLen]) hkey (.int .u64 (turn : Int))
            have hl := hW.mapped q2 q3
            exact ⟨W', q1, by rw [cell_of_block hl.blk]; rfl, hl, mapTurned_ext q3, mapTurned_keepT q3 _⟩
          clear he hkey
          go_wp2_with fail
          refine HFL.out.mono ?_
          rintro e w4 ⟨rfl, e0, e5, H4⟩
          obtain ⟨w5, hrun, e0'', H5⟩ := hmu.out w4 H4.out.1
          have hrx5 := (H3.out.1.kept H4.out.2.2).kept H5.out.2.2
          obtain ⟨E, hE⟩ : ∃ E, (sk.flush.1.write (F : Int) (secF z turn next b 0)).2 = E := ⟨_, rfl⟩
          have HWR := Lib.hid (write_log H5.out.1 (F : Int) hrx5 E hE)
          have hone : layL F turn next z b (0 + 1) sk = ((sk.flush.1.write (F : Int) (secF z turn next b 0)).1, E, true) := by
            show (if sk.flush.2 ≠ 0 then _ else _) = _
            rw [if_neg (by rw [HE.out]; simp), hE]
          have HE2 := Lib.hid hone
          clear hone
          clear hrx5 hE hmu
          by_cases hE0 : E = 0
          · subst hE0
            go_wp2_with fail
            refine HWR.out.mono ?_
            rintro e w6 ⟨rfl, e6, e7, H6⟩
            go_wp2_with fail
            have hxf : Ext (fun k => k = p ∨ k = g ∨ k = m ∨ k = um) w w6 :=
              ((H3.out.2.1.trans (H4.out.2.1.mono (fun q _ hq => by rcases hq with h | h | h <;> simp [h]))).trans (H5.out.2.1.mono (fun q _ hq => by simp [hq]))).trans (H6.out.2.1.mono (fun q _ hq => by rcases hq with h | h | h <;> simp [h]))
            refine ⟨⟨0, by omega, ret_value (by omega), ?_⟩, by simp [intOf]⟩
            refine ⟨(sk.flush.1.write (F : Int) (secF z turn next b 0)).1, H6.out.1.fewer (fun q hq => .inl hq), ?_, by rw [(DS.write_dims _ _ _).1, (DS.flush_dims _).1]; exact HX.out.2.2.1, by rw [(DS.write_dims _ _ _).2, (DS.flush_dims _).2]; exact HX.out.2.2.2.1, hxf⟩
            rw [HX.out.2.1, HE2.out]
            rfl
          · have hE1 : (E != 0) = true := by simpa using hE0
            go_wp2_with fail
            refine HWR.out.mono ?_
            rintro e w6 ⟨rfl, e6, e7, H6⟩
            go_wp2_with fail
            go_ret
            have hxf : Ext (fun k => k = p ∨ k = g ∨ k = m ∨ k = um) w w6 :=
              ((H3.out.2.1.trans (H4.out.2.1.mono (fun q _ hq => by rcases hq with h | h | h <;> simp [h]))).trans (H5.out.2.1.mono (fun q _ hq => by simp [hq]))).trans (H6.out.2.1.mono (fun q _ hq => by rcases hq with h | h | h <;> simp [h]))
            have hres : layF F turn next b s = ((sk.flush.1.write (F : Int) (secF z turn next b 0)).1, E, true) := by
              simp only [layF, hz, hbl, hNN]
              rw [HX.out.2.1, HE2.out]
              simp [hE0]
            rw [hres]
            exact ⟨rfl, H6.out.1.fewer (fun q hq => .inl hq), hxf⟩
        · have HFL := Lib.hid (flush_log H3.out.2.2 32 he)
          have HE := Lib.hid he
          clear he
          go_wp2_with fail
          refine HFL.out.mono ?_
          rintro e w4 ⟨rfl, e0, e5, H4⟩
          go_wp2
          go_ret
          have hres : layF F turn next b s = (sk.flush.1, 32, false) := by
            have he := HE.out
            simp only [layF, hz, hbl, hNN]
            rw [HX.out.2.1, layL]
            simp [he]
          rw [hres]
          exact ⟨rfl, H4.out.1.fewer (fun q hq => .inl hq), H3.out.2.1.trans (H4.out.2.1.mono (fun q _ hq => by rcases hq with h | h | h <;> simp [h]))⟩
      · have hrx : Rd W1 5 1 (.slice (some ⟨wr.heap.size, 0, none⟩) s.size s.size) s.size (u8s (secF z turn next b (k + 1))) := by
          have e1 := sec_cells (turn := turn) (next := next) (b := b) (k := k) (show z + 16 = s.size by omega) HJ.out
          have e2 : (u8s (secF z turn next b (k + 1))).length = s.size := by rw [← e1, Array.length_toList, cut3_size (by simp [u8s, madeCells]; omega)]; simp [madeCells]
          exact ⟨by rw [e2]; omega, by simp only [maxLen]; omega, s.size, .inr ⟨wr.heap.size, 0, rfl, Nat.le_refl _, .inr ⟨_, (0, 0), HL1.out.2.1, by rw [e1, List.drop_zero]; exact List.take_of_length_le (by omega)⟩⟩⟩
        obtain ⟨E, hE⟩ : ∃ E, (sk.write ((F : Int) + ((k : Int) + 1)) (secF z turn next b (k + 1))).2 = E := ⟨_, rfl⟩
        have HWR := Lib.hid (write_log HL1.out.1 ((F : Int) + ((k : Int) + 1)) hrx E hE)
        have hsx : Hid (Ext (fun k => k = p ∨ k = g ∨ k = m ∨ k = um) w W1) := by
          have hx2 : Ext (fun _ => False) wr (wr.alloc (.cells (madeCells #[.int .u8 0] s.size) 5)).drew := ((Ext.refl _ wr).alloc _).drew
          exact (HX.out.2.2.2.2.trans (hx2.mono (fun _ _ h => h.elim))).andThen HL1.out.2.2 (fun i hi e => by have := HX.out.2.2.2.2.size; omega)
        have HE := Lib.hid hE
        clear hrx hE
        by_cases hE0 : E = 0
        · subst hE0
          go_wp2_with fail
          refine HWR.out.mono ?_
          rintro e w2 ⟨rfl, e0, e5, H2⟩
          go_wp2_with fail
          refine ⟨⟨k + 1, by omega, ret_value (by omega), ?_⟩, by simp [intOf]; omega⟩
          refine ⟨(sk.write ((F : Int) + ((k : Int) + 1)) (secF z turn next b (k + 1))).1, H2.out.1.fewer (fun q hq => .inl hq), ?_, by rw [(DS.write_dims _ _ _).1]; exact HX.out.2.2.1, by rw [(DS.write_dims _ _ _).2]; exact HX.out.2.2.2.1, hsx.out.trans (H2.out.2.1.mono (fun q _ hq => by rcases hq with h | h | h <;> simp [h]))⟩
          rw [HX.out.2.1]
          have e3 : ((F : Int) + ((k : Int) + 1)) = ((F + (k + 1) : Nat) : Int) := by omega
          have h4 := HE.out
          rw [e3] at h4 ⊢
          rw [layL]
          rw [if_neg (by rw [h4]; simp)]
        · have hE1 : (E != 0) = true := by simpa using hE0
          go_wp2_with fail
          refine HWR.out.mono ?_
          rintro e w2 ⟨rfl, e0, e5, H2⟩
          go_wp2_with fail
          go_ret
          have e3 : ((F : Int) + ((k : Int) + 1)) = ((F + (k + 1) : Nat) : Int) := by omega
          have h4 := HE.out
          have hres : layF F turn next b s = ((sk.write ((F : Int) + ((k : Int) + 1)) (secF z turn next b (k + 1))).1, E, false) := by
            rw [e3] at h4 ⊢
            simp only [layF, hz, hbl, hNN]
            rw [HX.out.2.1, layL]
            simp only [h4]
            simp [hE0]
          rw [hres]
          exact ⟨rfl, H2.out.1.fewer (fun q hq => .inl hq), hsx.out.trans (H2.out.2.1.mono (fun q _ hq => by rcases hq with h | h | h <;> simp [h]))⟩
end Go.Proofs.YtekolejeliefdaaGreat
