/- The log's statements: a disk and a log that a call has made. -/
import Derived.Test.YtekolejeliefdaaWalU
import Derived.Test.YtekolejeliefdaaLawD
import Derived.Lib.SlBytesConst
set_option linter.unusedVariables false
set_option linter.unusedSimpArgs false
namespace Go.Proofs.Ytekolejeliefdaa
open Go.RowKit

/-- A disk that has been made since w0. -/
structure Dsk (w0 w : World) (p g m : Nat) (s : DS) : Prop where
  disk : DiskAt (· < w0.heap.size) w p g m s
  new : w0.heap.size ≤ p ∧ w0.heap.size ≤ g ∧ w0.heap.size ≤ m
  below : Below w0.heap.size w0 w
/-- A log that has been opened since w0. -/
structure Sys (w0 w : World) (lp um p g m : Nat) (s : DS) (l : LS) : Prop where
  log : LogAt (· < w0.heap.size) w lp um l p g m s
  new : (w0.heap.size ≤ p ∧ w0.heap.size ≤ g ∧ w0.heap.size ≤ m) ∧ w0.heap.size ≤ lp ∧ w0.heap.size ≤ um
  below : Below w0.heap.size w0 w
/-- Records in memory, their row behind the disk's. -/
def Recs (w : World) (g : Nat) (v : Value) (rs : List (List UInt8)) : Prop := ∃ cs, w.ownsRow (g + 1) 33 1 v rs.length cs ∧ RecsAt w cs rs
section
variable {w0 w w1 : World} {lp um p g m : Nat} {s s' : DS} {l l' : LS} {v : Value} {rs : List (List UInt8)} {e : Int}
theorem Sys.dsk (h : Sys w0 w lp um p g m s l) : Dsk w0 w p g m s := ⟨h.log.disk, h.new.1, h.below⟩
theorem Dsk.new_ext (h : Dsk w0 w p g m s) (hx : Ext (fun _ => False) w w1) : Dsk w0 w1 p g m s :=
  ⟨h.disk.kept_ext hx id id id (hx.keepT (fun _ _ _ _ => id)), h.new, h.below.trans ((hx.below (fun _ _ h => h) (Nat.le_refl _)).mono h.below.size)⟩
theorem Sys.new_ext (h : Sys w0 w lp um p g m s l) (hx : Ext (fun _ => False) w w1) : Sys w0 w1 lp um p g m s l :=
  ⟨h.log.past hx ⟨id, id, id, id, id⟩ (hx.keepT (fun _ _ _ _ => id)), h.new, h.below.trans ((hx.below (fun _ _ h => h) (Nat.le_refl _)).mono h.below.size)⟩
theorem Recs.new_ext (h : Recs w g v rs) (hx : Ext (fun _ => False) w w1) : Recs w1 g v rs := by
  obtain ⟨cs, h1, h2⟩ := h
  exact ⟨cs, own_keep h1 (hx.keepT (fun _ _ _ _ => id)), h2.kept (hx.keepT (fun _ _ _ _ => id))⟩
theorem Recs.form (h : Recs w g v rs) : ∃ a c, v = .slice a rs.length c := by
  obtain ⟨cs, h1, h2⟩ := h
  exact (Rd.of_own h1).form
theorem Recs.rd (h : Recs w g v rs) : ∃ cs, Rd w 33 1 v rs.length cs ∧ RecsAt w cs rs := by
  obtain ⟨cs, h1, h2⟩ := h
  exact ⟨cs, Rd.of_own h1, h2⟩
theorem Recs.nil (w : World) (g : Nat) : Recs w g (.slice none 0 0) [] := ⟨[], ⟨rfl, .inl ⟨rfl, rfl⟩⟩, rfl, by intro i v r q; simp at q⟩
/-- What is done to a disk and a log turns no other bytes, no other rows. -/
theorem LogAt.keepR {X : Nat → Prop} {S : Nat → Prop} (h : LogAt X w lp um l p g m s) (hx : Ext S w w1) (hS : ∀ k, S k → k = p ∨ k = g ∨ k = m ∨ k = um ∨ k = lp) (hr : Recs w g v rs) : Recs w1 g v rs := by
  have hlp := h.blk
  obtain ⟨es, cl, hu, _⟩ := h.und
  obtain ⟨sv, hp, cap, c2, _, hg, _⟩ := h.disk.blk
  obtain ⟨dl, ⟨es2, cl2, hm, _⟩, _⟩ := h.disk.map
  have h5 : KeepT 5 w w1 := by
    refine hx.keepT ?_
    intro b cur fr hq hs
    rcases hS b hs with rfl | rfl | rfl | rfl | rfl <;> simp_all
  obtain ⟨cs, h1, h2⟩ := hr
  refine ⟨cs, ⟨h1.1, ?_⟩, h2.kept h5⟩
  rcases h1.2 with h3 | ⟨b, cap', cur, hv, hb, hh, r⟩
  · exact .inl h3
  · refine .inr ⟨b, cap', cur, hv, hb, (hx.block b (lt_of_heap hh) (fun hs => ?_)).trans hh, r⟩
    rcases hS b hs with rfl | rfl | rfl | rfl | rfl
    · rw [hp] at hh; simp at hh
    · omega
    · rw [hm] at hh; simp at hh
    · rw [hu] at hh; simp at hh
    · rw [hlp] at hh; simp at hh
theorem DiskAt.keepR {X : Nat → Prop} {S : Nat → Prop} (h : DiskAt X w p g m s) (hx : Ext S w w1) (hS : ∀ k, S k → k = p ∨ k = g ∨ k = m) (hr : Recs w g v rs) : Recs w1 g v rs := by
  obtain ⟨sv, hp, cap, c2, _, hg, _⟩ := h.blk
  obtain ⟨dl, ⟨es2, cl2, hm, _⟩, _⟩ := h.map
  have h5 : KeepT 5 w w1 := by
    refine hx.keepT ?_
    intro b cur fr hq hs
    rcases hS b hs with rfl | rfl | rfl <;> simp_all
  obtain ⟨cs, h1, h2⟩ := hr
  refine ⟨cs, ⟨h1.1, ?_⟩, h2.kept h5⟩
  rcases h1.2 with h3 | ⟨b, cap', cur, hv, hb, hh, r⟩
  · exact .inl h3
  · refine .inr ⟨b, cap', cur, hv, hb, (hx.block b (lt_of_heap hh) (fun hs => ?_)).trans hh, r⟩
    rcases hS b hs with rfl | rfl | rfl
    · rw [hp] at hh; simp at hh
    · omega
    · rw [hm] at hh; simp at hh
theorem new_dsk (n size : Int) (w0 w : World) (hb : Below w0.heap.size w0 w) : Calls Try.prog 13 #[.int .i64 n, .int .i64 size] w fun e w' => ∃ p g m, e = .returned (.pointer (some ⟨p, 0, none⟩)) ∧ Hid (Dsk w0 w' p g m (DS.new n size) ∧ Below w.heap.size w w' ∧ g < w'.heap.size) := by
  refine (new_any n size w).mono ?_
  rintro e w' ⟨p, g, m, rfl, h1, h2, h3, h4, h5⟩
  have hs := hb.size
  have hd : DiskAt (· < w0.heap.size) w' p g m (DS.new n size) := h4.more (Ext.refl _ _) (fun k hk => .inl (by omega)) (fun k hk => by have := h5.size; omega)
  exact ⟨p, g, m, rfl, ⟨hd, ⟨by omega, by omega, by omega⟩, hb.trans (h5.mono hs)⟩, h5, h4.lt.2.1⟩
/-- A disk with a log on it is opened. -/
theorem open_sys {out : List (List UInt8)} (h : Dsk w0 w p g m s) (hi : Inv s l out) : Calls Try.prog 27 #[.pointer (some ⟨p, 0, none⟩)] w fun e w' =>
    ∃ lp um va vc, e = .returned (.tuple #[.pointer (some ⟨lp, 0, none⟩), .slice va out.length vc, .int .i64 0]) ∧ Hid (Sys w0 w' lp um p g m s l ∧ Recs w' g (.slice va out.length vc) out ∧ Below w.heap.size w w' ∧ w.heap.size ≤ lp ∧ w.heap.size ≤ um) := by
  refine (opened_any h.disk).mono ?_
  rintro e w' ⟨hp, hb⟩
  rw [hi.recover] at hp
  obtain ⟨lp, um, v, cs, rfl, h1, h2, h3, h4, h5⟩ := hp
  obtain ⟨va, vc, rfl⟩ := (Rd.of_own h4).form
  have hs := h.below.size
  have hg := h.disk.lt
  exact ⟨lp, um, va, vc, rfl, ⟨h3, ⟨h.new, by omega, by omega⟩, h.below.trans (hb.mono hs)⟩, ⟨cs, own_mono h4 (by omega), h5⟩, hb, h1, h2⟩
/-- Records are committed. -/
theorem commit_sys (h : Sys w0 w lp um p g m s l) (hu : l.undone = []) {n : Nat} {cs : List Value} (hv : Rd w 33 1 v n cs) (hr : RecsAt w cs rs) (ht : l.turn < 18446744073709551616) (hn : l.next < 18446744073709551616) (ha : l.at_ ≤ s.sure.length / 2) (hc : l.count + n ≤ 4611686018427387904) (hco : commitF s l rs = (s', l', e)) :
    Calls Try.prog 28 #[.pointer (some ⟨lp, 0, none⟩), v] w fun x w' => x = .returned (.int .i64 e) ∧ Hid (Sys w0 w' lp um p g m s' l' ∧ Ext (fun k => k = p ∨ k = g ∨ k = m ∨ k = um ∨ k = lp) w w') := by
  refine (commit_any h.log hu hv hr ht hn ha hc).mono ?_
  rintro x w' ⟨rfl, h1, h2⟩
  rw [hco] at h1 ⊢
  have hnw := h.new
  exact ⟨rfl, ⟨h1, h.new, h.below.trans (h2.below (B := w0.heap.size) (fun k hk q => by omega) h.below.size)⟩, h2⟩

theorem reset_sys (h : Sys w0 w lp um p g m s l) (hu : l.undone = []) {n : Nat} {cs : List Value} (hv : Rd w 33 1 v n cs) (hr : RecsAt w cs rs) (ht : l.turn < 18446744073709551616) (hco : resetF s l rs = (s', l', e)) :
    Calls Try.prog 31 #[.pointer (some ⟨lp, 0, none⟩), v] w fun x w' => x = .returned (.int .i64 e) ∧ Hid (Sys w0 w' lp um p g m s' l' ∧ Ext (fun k => k = p ∨ k = g ∨ k = m ∨ k = um ∨ k = lp) w w') := by
  refine (reset_any h.log hu hv hr ht).mono ?_
  rintro x w' ⟨rfl, h1, h2⟩
  rw [hco] at h1 ⊢
  have hnw := h.new
  exact ⟨rfl, ⟨h1, h.new, h.below.trans (h2.below (B := w0.heap.size) (fun k hk q => by omega) h.below.size)⟩, h2⟩
end

theorem Recs.at_ {w : World} {g : Nat} {v : Value} {rs : List (List UInt8)} (h : Recs w g v rs) : ∀ i X, rs[i]? = some X → ∃ b c xa xc, v = .slice (some ⟨b, 0, none⟩) rs.length c ∧ w.cell? ⟨b, i, none⟩ = some (.slice xa X.length xc) ∧ Rd w 5 1 (.slice xa X.length xc) X.length (u8s X) := by
  intro i X hX
  obtain ⟨cs, h1, h2⟩ := h
  have hi : i < rs.length := (List.getElem?_eq_some_iff.1 hX).1
  obtain ⟨b, c, rfl, _⟩ := h1.form (by omega)
  have hcs : i < cs.length := by rw [h2.1]; exact hi
  have q := h2.2 i _ _ (List.getElem?_eq_getElem hcs) hX
  obtain ⟨xa, xc, hx⟩ := q.form
  obtain ⟨b', off, c', e1, _, hc⟩ := (Rd.of_own h1).cell (by omega)
  simp only [Value.slice.injEq, true_and, Option.some.injEq, Addr.mk.injEq] at e1
  obtain ⟨⟨rfl, rfl, _⟩, rfl⟩ := e1
  have d := hc i (by omega)
  rw [List.getElem?_eq_getElem hcs, hx, Nat.zero_add] at d
  rw [hx] at q
  exact ⟨b, c, xa, xc, rfl, d, q⟩
def kr4 : List (List UInt8) := [[97], [98, 99]]
theorem new60 : (DS.new 60 256).sure.length = 60 ∧ (DS.new 60 256).size = 256 := by
  simp only [DS.new, List.length_replicate]
  decide
set_option maxRecDepth 100000 in
set_option maxHeartbeats 4000000 in
theorem known4 (w : World) : Calls Try.prog 26 #[] w fun e w' => e = .returned (.bool true) ∧ Below w.heap.size w w' := by
  have hi0 := new_inv 60 256 (by rw [new60.1]; omega) (by rw [new60.2]; omega)
  obtain ⟨s1, l1, hc1, hi1, hz1, hn1, ht1, hx1, ha1⟩ : ∃ s1 l1, commitF (DS.new 60 256) { turn := 0, next := 0, at_ := 0, count := 0, undone := [] } kr4 = (s1, l1, 0) ∧ Inv s1 l1 kr4 ∧ s1.size = 256 ∧ s1.sure.length = 60 ∧ l1.turn = 0 ∧ l1.next = 1 ∧ l1.at_ ≤ 30 := by
    rcases hi0.commit (by simp) kr4 with ⟨h1, _⟩ | ⟨_, h1, _⟩ | ⟨_, _, s1, l1, h1, h2, h3, h4, h5, h6, h7⟩
    · exact absurd h1 (by decide +kernel)
    · exfalso
      have hb : (bodyF kr4).length = 11 := by decide +kernel
      unfold fullF at h1
      rw [new60.1, new60.2, hb] at h1
      simp at h1
    · have h8 := h2.at_
      rw [h4, new60.1] at h8
      exact ⟨s1, l1, h1, h2, h3.trans new60.2, h4.trans new60.1, h5, h6, h8⟩
  have hbig : isLong (List.replicate 1048577 0) = true := by unfold isLong; rw [List.length_replicate]; decide
  have hc2 : commitF s1 l1 [List.replicate 1048577 0] = (s1, l1, 42) := by
    rcases hi1.commit (by rw [hx1]; omega) [List.replicate 1048577 0] with ⟨_, h⟩ | ⟨h, _⟩ | ⟨h, _⟩
    · exact h
    · rw [List.any_cons, hbig] at h
      cases h
    · rw [List.any_cons, hbig] at h
      cases h
  have HN := Lib.hid (new_dsk 60 256 w w (Below.refl _ _))
  have HI0 := Lib.hid hi0
  have HI1 := Lib.hid (And.intro hc1 (And.intro hi1 (And.intro hz1 (And.intro hn1 (And.intro ht1 (And.intro hx1 (And.intro ha1 hc2)))))))
  clear hi0 hc1 hi1 hz1 hn1 ht1 hx1 ha1 hc2
  go_enter Try.func26, Try.ntmps26
  go_wp2_with fail
  refine HN.out.mono ?_
  rintro e w1 ⟨p, g, m, rfl, H1⟩
  have HO := Lib.hid (open_sys H1.out.1 HI0.out)
  go_wp2_with fail
  refine HO.out.mono ?_
  rintro e w2 ⟨lp, um, va, vc, rfl, H2⟩
  have kc := fun (w : World) (C : Array Value) (n c : Nat) => Lib.run_convert_bytes_const (P := Try.prog) w 33 5 C n c Try.underlying33 Try.underlying5
  have kc2 := kc (w2.alloc (.cells #[.int .u8 97] 5 (1, 2))) #[.int .u8 98, .int .u8 99] 2 2
  simp only [World.size_alloc] at kc2
  obtain ⟨W3, hW3⟩ : ∃ W3, ((w2.alloc (.cells #[.int .u8 97] 5 (1, 2))).alloc (.cells #[.int .u8 98, .int .u8 99] 5 (2, 3))).alloc (.cells #[.slice (some ⟨w2.heap.size, 0, none⟩) 1 1, .slice (some ⟨w2.heap.size + 1, 0, none⟩) 2 2] 33) = W3 := ⟨_, rfl⟩
  have hx3 : Ext (fun _ => False) w2 W3 := by rw [← hW3]; exact (((Ext.refl _ w2).alloc _).alloc _).alloc _
  have b1 : W3.heap[w2.heap.size]? = some (.cells #[.int .u8 97] 5 (1, 2)) := by
    rw [← hW3]
    exact (heap_alloc_lt (by simp; omega)).trans ((heap_alloc_lt (by simp)).trans (heap_alloc_new w2 _))
  have b2 : W3.heap[w2.heap.size + 1]? = some (.cells #[.int .u8 98, .int .u8 99] 5 (2, 3)) := by
    rw [← hW3]
    refine (heap_alloc_lt (by simp)).trans ?_
    have := heap_alloc_new (w2.alloc (.cells #[.int .u8 97] 5 (1, 2))) (.cells #[.int .u8 98, .int .u8 99] 5 (2, 3))
    simpa using this
  have b3 : W3.heap[w2.heap.size + 1 + 1]? = some (.cells #[.slice (some ⟨w2.heap.size, 0, none⟩) 1 1, .slice (some ⟨w2.heap.size + 1, 0, none⟩) 2 2] 33 (0, 0)) := by
    rw [← hW3]
    have := heap_alloc_new ((w2.alloc (.cells #[.int .u8 97] 5 (1, 2))).alloc (.cells #[.int .u8 98, .int .u8 99] 5 (2, 3))) (.cells #[.slice (some ⟨w2.heap.size, 0, none⟩) 1 1, .slice (some ⟨w2.heap.size + 1, 0, none⟩) 2 2] 33)
    simpa using this
  have hrd : Rd W3 33 1 (.slice (some ⟨w2.heap.size + 1 + 1, 0, none⟩) 2 2) 2 [.slice (some ⟨w2.heap.size, 0, none⟩) 1 1, .slice (some ⟨w2.heap.size + 1, 0, none⟩) 2 2] := ⟨rfl, by simp [maxLen], 2, .inr ⟨_, 0, rfl, Nat.le_refl _, .inr ⟨_, (0, 0), b3, rfl⟩⟩⟩
  have hra : RecsAt W3 [.slice (some ⟨w2.heap.size, 0, none⟩) 1 1, .slice (some ⟨w2.heap.size + 1, 0, none⟩) 2 2] kr4 := by
    refine ⟨rfl, fun i v r h1 h2 => ?_⟩
    match i with
    | 0 =>
      simp [kr4] at h1 h2
      subst h1 h2
      exact ⟨rfl, by simp [maxLen], 1, .inr ⟨_, 0, rfl, Nat.le_refl _, .inr ⟨_, (1, 2), b1, rfl⟩⟩⟩
    | 1 =>
      simp [kr4] at h1 h2
      subst h1 h2
      exact ⟨rfl, by simp [maxLen], 2, .inr ⟨_, 0, rfl, Nat.le_refl _, .inr ⟨_, (2, 3), b2, rfl⟩⟩⟩
    | k + 2 => simp [kr4] at h2
  have hcom := commit_sys (H2.out.1.new_ext hx3) rfl hrd hra (by simp) (by simp) (Nat.zero_le _) (by simp) HI1.out.1
  rw [← hW3] at hcom
  have HC := Lib.hid hcom
  have HX3 := Lib.hid hx3
  clear hcom hW3 hx3 b1 b2 b3 hrd hra
  go_wp2_with (go_at_call 28; refine HC.out.mono ?_; rintro e w3 ⟨rfl, H3⟩)
  have hct := count_any H3.out.1.log
  have hl1 : l1.count = 2 := HI1.out.2.1.count
  rw [hl1] at hct
  have HCT := Lib.hid hct
  have HO2 : Hid (Calls Try.prog 27 #[.pointer (some ⟨p, 0, none⟩)] w3 fun e w' =>
    ∃ (lp : Nat) (va : Option Addr) (vc : Nat), e = .returned (.tuple #[.pointer (some ⟨lp, 0, none⟩), .slice va 2 vc, .int .i64 0]) ∧ Hid (Recs w' g (.slice va 2 vc) kr4 ∧ Below w3.heap.size w3 w')) := by
    refine (open_sys H3.out.1.dsk HI1.out.2.1).mono ?_
    rintro e w' ⟨lp2, um2, va2, vc2, rfl, h⟩
    exact ⟨lp2, va2, vc2, rfl, h.out.2.1, h.out.2.2.1⟩
  clear hct hl1
  go_wp2_with (first | (go_at_call 32; refine HCT.out.mono ?_; rintro e w' ⟨rfl, rfl⟩) | (go_at_call 27; refine HO2.out.mono ?_; rintro e w4 ⟨lp2, va2, vc2, rfl, H4⟩) | fail)
  have h34 : Ext (fun _ => False) w3 w4 := Ext.of_below H4.out.2 (Nat.le_refl _)
  have hS4 := H3.out.1.new_ext h34
  have HN9 : Hid (Calls Try.prog 13 #[.int .i64 9, .int .i64 256] w4 fun e w' => ∃ p9, e = .returned (.pointer (some ⟨p9, 0, none⟩)) ∧ Hid (Below w4.heap.size w4 w' ∧ Calls Try.prog 27 #[.pointer (some ⟨p9, 0, none⟩)] w' (fun e w2 => e = .returned (.tuple #[.pointer none, .slice none 0 0, .int .i64 41]) ∧ Hid (Below w4.heap.size w4 w2)))) := by
    refine (new_any 9 256 w4).mono ?_
    rintro e w' ⟨p9, g9, m9, rfl, _, _, _, h4, h5⟩
    refine ⟨p9, rfl, h5, ?_⟩
    refine (opened_any h4).mono ?_
    rintro e w2 ⟨hp, hb⟩
    have hr : recoverF (DS.new 9 256) = .error 41 := by
      unfold recoverF
      rw [if_pos (.inl (by simp only [DS.new, List.length_replicate]; decide))]
    rw [hr] at hp
    exact ⟨hp, h5.trans (hb.mono h5.size)⟩
  have HS4 := Lib.hid hS4
  clear h34 hS4
  refine HN9.out.mono ?_
  rintro e w5 ⟨p9, rfl, H5⟩
  go_wp2_with fail
  refine H5.out.2.mono ?_
  rintro e w6 ⟨rfl, H6⟩
  have h46 : Ext (fun _ => False) w4 w6 := Ext.of_below H6.out (Nat.le_refl _)
  have hS6 := HS4.out.new_ext h46
  have hR6 := H4.out.1.new_ext h46
  obtain ⟨b0, c0, xa0, xc0, e0, d0, q0⟩ := hR6.at_ 0 [97] rfl
  obtain ⟨b1, c1, xa1, xc1, e1, d1, q1⟩ := hR6.at_ 1 [98, 99] rfl
  have e0' : Value.slice va2 2 vc2 = .slice (some ⟨b0, 0, none⟩) 2 c0 := e0
  have e1' : Value.slice va2 2 vc2 = .slice (some ⟨b1, 0, none⟩) 2 c1 := e1
  simp only [Value.slice.injEq, true_and] at e0' e1'
  obtain ⟨rfl, rfl⟩ := e0'
  obtain ⟨e2, rfl⟩ := e1'
  simp only [Option.some.injEq, Addr.mk.injEq, and_true] at e2
  subst e2
  have s0 := q0.str
  have s1' := q1.str
  simp only [List.length_cons, List.length_nil, Nat.zero_add, Nat.reduceAdd] at d0 d1 s0 s1'
  obtain ⟨Z, hZ⟩ : ∃ Z : Nat, Z = 1048577 := ⟨_, rfl⟩
  have hmk : ∀ W : World, (Instr.makeSlice 33 (.int .i64 1048577) (.int .i64 1048577)).run Try.prog W = .ok (.slice (some ⟨W.heap.size, 0, none⟩) Z Z) (W.alloc (.cells (madeCells #[.int .u8 0] Z) 5)) := by
    intro W
    have := run_make_row' (P := Try.prog) 33 5 (.int .u8 0) 1 Try.underlying33 (by kernel_rfl) rfl .i64 .i64 Z (by omega) (by omega) W
    have hc : ((Z : Nat) : Int) = 1048577 := by omega
    rw [hc] at this
    exact this
  obtain ⟨W7, hW7⟩ : ∃ W7, (w6.alloc (.cells (madeCells #[.int .u8 0] Z) 5)).alloc (.cells #[.slice (some ⟨w6.heap.size, 0, none⟩) Z Z] 33) = W7 := ⟨_, rfl⟩
  have hx7 : Ext (fun _ => False) w6 W7 := by rw [← hW7]; exact ((Ext.refl _ w6).alloc _).alloc _
  have a1 : W7.heap[w6.heap.size]? = some (.cells (madeCells #[.int .u8 0] Z) 5 (0, 0)) := by
    rw [← hW7]
    exact (heap_alloc_lt (by simp)).trans (heap_alloc_new w6 _)
  have hrd : Rd W7 33 1 (.slice (some ⟨w6.heap.size + 1, 0, none⟩) 1 1) 1 [.slice (some ⟨w6.heap.size, 0, none⟩) Z Z] := by
    have := Rd.one (w6.alloc (.cells (madeCells #[.int .u8 0] Z) 5)) (.slice (some ⟨w6.heap.size, 0, none⟩) Z Z) 33
    rw [hW7] at this
    simpa using this
  have hra : RecsAt W7 [.slice (some ⟨w6.heap.size, 0, none⟩) Z Z] [List.replicate Z 0] := by
    refine ⟨rfl, fun i v r h1 h2 => ?_⟩
    match i with
    | 0 =>
      simp only [List.getElem?_cons_zero, Option.some.injEq] at h1 h2
      subst h1 h2
      rw [List.length_replicate]
      refine ⟨by rw [u8s_length, List.length_replicate]; omega, by simp only [maxLen]; omega, Z, .inr ⟨_, 0, rfl, Nat.le_refl _, .inr ⟨_, (0, 0), a1, ?_⟩⟩⟩
      rw [madeCells_one, List.drop_zero, List.take_of_length_le (by simp), u8s_replicate]
    | k + 1 => simp at h2
  have hlc : l1.count = 2 := HI1.out.2.1.count
  have hco7 : commitF s1 l1 [List.replicate Z 0] = (s1, l1, 42) := by rw [hZ]; exact HI1.out.2.2.2.2.2.2.2
  have hcom := commit_sys (hS6.new_ext hx7) HI1.out.2.1.und hrd hra (by rw [HI1.out.2.2.2.2.1]; omega) (by rw [HI1.out.2.2.2.2.2.1]; omega) (by rw [HI1.out.2.2.2.1]; exact HI1.out.2.2.2.2.2.2.1) (by rw [hlc]; omega) hco7
  rw [← hW7] at hcom
  have HC7 := Lib.hid hcom
  have HZ := Lib.hid hZ
  clear hcom hW7 hx7 a1 hrd hra hlc hco7 h46 hS6 hR6 e0 e1 q0 q1 hZ hbig kc kc2
  go_wp2_with (go_at_call 28; refine HC7.out.mono ?_; rintro e w8 ⟨rfl, H8⟩)
  go_ret
  exact ⟨rfl, H8.out.1.below⟩
end Go.Proofs.Ytekolejeliefdaa
