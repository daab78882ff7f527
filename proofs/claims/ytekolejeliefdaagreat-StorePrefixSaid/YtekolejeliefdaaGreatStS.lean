/- The store's statements: a store on a new disk; two pairs that are there again. -/
import Derived.Test.YtekolejeliefdaaGreatStR
set_option linter.unusedVariables false
set_option linter.unusedSimpArgs false
namespace Go.Proofs.YtekolejeliefdaaGreat
open Go.RowKit

theorem rec_len (r : List UInt8) : (recF r).length = r.length + 4 := by simp [recF]; omega
theorem body_len (rs : List (List UInt8)) (n : Nat) (h : ∀ r ∈ rs, r.length ≤ n) : (bodyF rs).length ≤ rs.length * (n + 4) := by
  induction rs with
  | nil => simp [bodyF]
  | cons r rs ih =>
    have h1 := ih fun q hq => h q (List.mem_cons_of_mem _ hq)
    have h2 := h r List.mem_cons_self
    have h3 : bodyF (r :: rs) = recF r ++ bodyF rs := rfl
    rw [h3, List.length_append, rec_len, List.length_cons, Nat.add_mul]
    omega
theorem recP_len (q : SP) (h1 : q.1.length ≤ 1000) (h2 : q.2.1.length ≤ 1000) : (recP q).length ≤ q.1.length + q.2.1.length + 21 := by
  have e1 := numF_le10 (x := q.1.length) (by omega)
  have e2 := numF_le10 (x := q.2.1.length) (by omega)
  unfold recP pairF boolF textF
  split <;> simp <;> omega
/-- Records that fit are committed. -/
theorem commit_fits {s : DS} {l : LS} {out : List (List UInt8)} (h : Inv s l out) (hn : l.next + 1 < 4611686018427387904) (rs : List (List UInt8)) (n : Nat) (hr : ∀ r ∈ rs, r.length ≤ n) (hl : n ≤ 1048576) (hf : 32 + rs.length * (n + 4) ≤ (s.sure.length / 2 - l.at_) * (s.size - 16)) :
    ∃ s' l', commitF s l rs = (s', l', 0) ∧ Inv s' l' (out ++ rs) ∧ s'.size = s.size ∧ s'.sure.length = s.sure.length ∧ l'.turn = l.turn ∧ l'.next = l.next + 1 ∧ l'.at_ = l.at_ + takeF s rs := by
  have hb := body_len rs n hr
  rcases h.commit hn rs with ⟨h1, _⟩ | ⟨_, h1, _⟩ | ⟨_, _, h1⟩
  · exfalso
    rw [List.any_eq_true] at h1
    obtain ⟨r, hm, hq⟩ := h1
    have := hr r hm
    simp [isLong] at hq
    omega
  · exfalso
    unfold fullF at h1
    omega
  · exact h1
theorem recP_norm (q : SP) : recP (normP q) = recP q := by
  unfold normP
  split
  · rename_i h
    unfold recP pairF
    simp [h]
  · rfl
theorem map_recP_norm (ps : List SP) : (ps.map normP).map recP = ps.map recP := by
  rw [List.map_map]
  exact List.map_congr_left fun q _ => recP_norm q
theorem new200 : (DS.new 200 256).sure.length = 200 ∧ (DS.new 200 256).size = 256 := by
  simp only [DS.new, List.length_replicate]
  decide
theorem new400 : (DS.new 400 512).sure.length = 400 ∧ (DS.new 400 512).size = 512 := by
  simp only [DS.new, List.length_replicate]
  decide
/-- A store on a new disk is opened. -/
theorem snew_any {w0 w : World} (n size : Int) (hn : 16 ≤ (DS.new n size).sure.length) (hz : 128 ≤ (DS.new n size).size) (hb : Below w0.heap.size w0 w) :
    Calls Tryz.prog 18 #[.int .i64 n, .int .i64 size] w fun e w' => ∃ p, e = .returned (.pointer (some ⟨p, 0, none⟩)) ∧ Hid (Calls Tryz.prog 19 #[.pointer (some ⟨p, 0, none⟩)] w' fun e w2 => ∃ sp, e = .returned (.tuple #[.pointer (some ⟨sp, 0, none⟩), .int .i64 0]) ∧
      Hid (∃ b lp um g m, Sto w0 w2 sp b lp um p g m (DS.new n size) { turn := 0, next := 0, at_ := 0, count := 0, undone := [] } [])) := by
  refine (new_dsk n size w0 w hb).mono ?_
  rintro e w1 ⟨p, g, m, rfl, h⟩
  refine ⟨p, rfl, ?_⟩
  refine (sopen_any (ps := []) h.out.1 (new_inv n size hn hz) (by simp) (by simp)).mono ?_
  rintro e w2 ⟨sp, b, lp, um, rfl, h2⟩
  exact ⟨sp, rfl, b, lp, um, g, m, h2.out.1⟩
/-- A store is opened anew on its disk. -/
theorem sagain_any {w0 w : World} {sp b lp um p g m : Nat} {s : DS} {l : LS} {d : SM} (h : Sto w0 w sp b lp um p g m s l d) {ps : List SP} (hi : Inv s l (ps.map recP)) (hk : ∀ q ∈ ps, q.1.length ≤ 1000 ∧ q.2.1.length ≤ 1000) (hn : ps.length ≤ 1000000) :
    Calls Tryz.prog 19 #[.pointer (some ⟨p, 0, none⟩)] w fun e w2 => ∃ sp2, e = .returned (.tuple #[.pointer (some ⟨sp2, 0, none⟩), .int .i64 0]) ∧
      Hid (∃ b2 lp2 um2, Sto w0 w2 sp2 b2 lp2 um2 p g m s l (chg [] ps) ∧ Below w.heap.size w w2) := by
  have hi2 : Inv s l ((ps.map normP).map recP) := by rw [map_recP_norm]; exact hi
  refine (sopen_any (ps := ps.map normP) h.sys.dsk hi2 ?_ (by simpa using hn)).mono ?_
  · intro q hq
    obtain ⟨q', hq', rfl⟩ := List.mem_map.1 hq
    have := hk q' hq'
    unfold normP
    split
    · exact ⟨this.1, by simp, fun _ => rfl⟩
    · rename_i h
      exact ⟨this.1, this.2, fun e => absurd e h⟩
  · rintro e w2 ⟨sp2, b2, lp2, um2, rfl, h2⟩
    rw [chg_norm] at h2
    exact ⟨sp2, rfl, b2, lp2, um2, h2.out.1, h2.out.2.1⟩

def kp5 : List SP := [([97], [49], false), ([98], [50, 50], false)]
theorem kp5_chg : chg [] kp5 = [([97], [49]), ([98], [50, 50])] := by decide
theorem kp5_keys : (skeys (chg [] kp5)).filter (spre [97]) = [[97]] := by
  rw [kp5_chg]
  unfold skeys
  rw [List.mergeSort_of_pairwise (by decide)]
  decide
set_option maxRecDepth 100000 in
set_option maxHeartbeats 4000000 in
theorem known5 (w : World) : Calls Tryz.prog 17 #[] w fun e w' => e = .returned (.bool true) ∧ Below w.heap.size w w' := by
  have hi0 := new_inv 200 256 (by rw [new200.1]; omega) (by rw [new200.2]; omega)
  obtain ⟨s1, l1, hc1, hi1, hz1, hn1, ht1, hx1, ha1⟩ := commit_fits hi0 (by simp) (kp5.map recP) 30 (by
    intro r hr
    obtain ⟨q, hq, rfl⟩ := List.mem_map.1 hr
    have h1 : q.1.length ≤ 1 ∧ q.2.1.length ≤ 2 := by
      rcases List.mem_cons.1 hq with rfl | hq
      · exact ⟨by simp, by simp⟩
      · rw [List.mem_singleton.1 hq]
        exact ⟨by simp, by simp⟩
    have := recP_len q (by omega) (by omega)
    omega) (by omega) (by rw [new200.1, new200.2]; simp [kp5])
  have HN := Lib.hid (snew_any 200 256 (by rw [new200.1]; omega) (by rw [new200.2]; omega) (Below.refl w.heap.size w))
  have HI := Lib.hid (And.intro hc1 hi1)
  clear hi0 hc1 hi1 hz1 hn1 ht1 hx1 ha1
  go_enter Tryz.func17, Tryz.ntmps17
  go_wp2_with fail
  refine HN.out.mono ?_
  rintro e w1 ⟨p, rfl, H1⟩
  go_wp2_with fail
  refine H1.out.mono ?_
  rintro e w2 ⟨sp, rfl, H2⟩
  obtain ⟨b, lp, um, g, m, hs⟩ := H2.out
  obtain ⟨W3, hW3⟩ : ∃ W3, w2.alloc (.cells #[.string ⟨#[97]⟩, .string ⟨#[49]⟩, .bool false, .string ⟨#[98]⟩, .string ⟨#[50, 50]⟩, .bool false] 54) = W3 := ⟨_, rfl⟩
  have hx3 : Ext (fun _ => False) w2 W3 := by rw [← hW3]; exact (Ext.refl _ w2).alloc _
  have hrd : Rd W3 54 3 (.slice (some ⟨w2.heap.size, 0, none⟩) 2 2) 2 (spcells kp5) := by
    rw [← hW3]
    exact ⟨rfl, by simp [maxLen], 2, .inr ⟨_, 0, rfl, Nat.le_refl _, .inr ⟨_, (0, 0), heap_alloc_new w2 _, rfl⟩⟩⟩
  have HA : Hid (Calls Tryz.prog 20 #[.pointer (some ⟨sp, 0, none⟩), .slice (some ⟨w2.heap.size, 0, none⟩) 2 2] W3 fun e w' => e = .returned (.int .i64 0) ∧ Hid (∃ b', Sto w w' sp b' lp um p g m s1 l1 (chg [] kp5))) := by
    refine (apply_any (hs.new_ext hx3) hrd (by decide) (by omega) (by simp) rfl (by simp) (by simp) (Nat.zero_le _) (by simp) HI.out.1).mono ?_
    rintro e w' ⟨rfl, b', h⟩
    exact ⟨rfl, b', h.out.1⟩
  rw [← hW3] at HA
  clear hW3 hx3 hrd hs
  go_wp2_with fail
  refine HA.out.mono ?_
  rintro e w3 ⟨rfl, H3⟩
  obtain ⟨b', hs3⟩ := H3.out
  have HO := Lib.hid (sagain_any hs3 HI.out.2 (by decide) (by decide))
  clear hs3
  go_wp2_with fail
  refine HO.out.mono ?_
  rintro e w4 ⟨sp2, rfl, H4⟩
  obtain ⟨b2, lp2, um2, hs4, _⟩ := H4.out
  rw [kp5_chg] at hs4
  have hd2 : ([([97], [49]), ([98], [50, 50])] : SM) = chg [] kp5 := kp5_chg.symm
  have HG1 : Hid (Calls Tryz.prog 24 #[.pointer (some ⟨sp2, 0, none⟩), .string ⟨#[98]⟩] w4 fun e w' => e = .returned (.tuple #[.string ⟨#[50, 50]⟩, .bool true]) ∧ w' = w4) := get_any5 (k := [98]) hs4.st hs4.mp (by simp)
  have HG2 : Hid (Calls Tryz.prog 24 #[.pointer (some ⟨sp2, 0, none⟩), .string ⟨#[99]⟩] w4 fun e w' => e = .returned (.tuple #[.string ⟨#[]⟩, .bool false]) ∧ w' = w4) := get_any5 (k := [99]) hs4.st hs4.mp (by simp)
  have HK : Hid (Calls Tryz.prog 23 #[.pointer (some ⟨sp2, 0, none⟩), .string ⟨#[97]⟩] w4 fun e w' => ∃ a c, e = .returned (.slice a 1 c) ∧ Hid (Rd w' 9 1 (.slice a 1 c) 1 [bstr [97]] ∧ Sto w w' sp2 b2 lp2 um2 p g m s1 l1 [([97], [49]), ([98], [50, 50])])) := by
    refine (keys_any5 (p := [97]) hs4.st hs4.mp (by simp) (by simp)).mono ?_
    rintro e w' ⟨v, rfl, q1, q2⟩
    rw [hd2, kp5_keys] at q1
    obtain ⟨a, c, rfl⟩ := (Rd.of_own q1).form
    exact ⟨a, c, rfl, Rd.of_own q1, hs4.new_ext (Ext.of_below q2 (Nat.le_refl _))⟩
  clear hs4 hd2 H4
  go_wp2_with fail
  refine HG1.out.mono ?_
  rintro e w' ⟨rfl, rfl⟩
  go_wp2_with fail
  refine HG2.out.mono ?_
  rintro e w' ⟨rfl, rfl⟩
  go_wp2_with fail
  refine HK.out.mono ?_
  rintro e w5 ⟨a, c, rfl, H5⟩
  have HS : Hid (Calls Tryz.prog 12 #[.slice a 1 c, .slice (some ⟨w5.heap.size, 0, none⟩) 1 1] (w5.alloc (.cells #[.string ⟨#[97]⟩] 9)) fun e w' => e = .returned (.bool true) ∧ Hid (Sto w w' sp2 b2 lp2 um2 p g m s1 l1 [([97], [49]), ([98], [50, 50])])) := by
    have hx : Ext (fun _ => False) w5 (w5.alloc (.cells #[.string ⟨#[97]⟩] 9)) := (Ext.refl _ w5).alloc _
    refine (strings_any (xs := [[97]]) (ys := [[97]]) (H5.out.1.kept fun b cur fr hq => (hx.block b (lt_of_heap hq) id).trans hq) ⟨rfl, by simp [maxLen], 1, .inr ⟨_, 0, rfl, Nat.le_refl _, .inr ⟨_, (0, 0), heap_alloc_new w5 _, rfl⟩⟩⟩).mono ?_
    rintro e w' ⟨rfl, mm, rfl⟩
    exact ⟨by simp, H5.out.2.new_ext (hx.drewN mm)⟩
  go_wp2_with fail
  refine HS.out.mono ?_
  rintro e w6 ⟨rfl, H6⟩
  have HZ : Hid (Calls Tryz.prog 47 #[.pointer (some ⟨sp2, 0, none⟩)] w6 fun e w' => e = .returned (.int .i64 5) ∧ Hid (Sto w w' sp2 b2 lp2 um2 p g m s1 l1 [([97], [49]), ([98], [50, 50])])) := by
    refine (size_any5 H6.out.st H6.out.mp (by decide) (by decide)).mono ?_
    rintro e w' ⟨rfl, q⟩
    exact ⟨rfl, H6.out.new_ext (Ext.of_below q (Nat.le_refl _))⟩
  go_wp2_with fail
  refine HZ.out.mono ?_
  rintro e w7 ⟨rfl, H7⟩
  have HD := Lib.hid (down_any5 H7.out.st)
  go_wp2_with fail
  refine HD.out.mono ?_
  rintro e w' ⟨rfl, rfl⟩
  go_wp2_with fail
  go_ret
  exact ⟨rfl, H7.out.sys.below⟩
end Go.Proofs.YtekolejeliefdaaGreat
