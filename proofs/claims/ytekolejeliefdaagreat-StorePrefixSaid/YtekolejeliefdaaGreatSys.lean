/- A disk and a log that a call has made since its beginning, and what is done to them. -/
import Derived.Test.YtekolejeliefdaaGreatWalS
set_option linter.unusedVariables false
set_option linter.unusedSimpArgs false
namespace Go.Proofs.YtekolejeliefdaaGreat
open Go.RowKit

/-- A disk that has been made since w0. -/
structure Dsk (w0 w : World) (p g m : Nat) (s : DS) : Prop where
  disk : DiskAt (· < w0.heap.size) w p g m s
  new : w0.heap.size ≤ p ∧ w0.heap.size ≤ g ∧ w0.heap.size ≤ m
  below : Below w0.heap.size w0 w
/-- A log that has been opened since w0. -/
structure Sys (w0 w : World) (lp um p g m : Nat) (s : DS) (l : LS) : Prop where
  log : LogAt (· < w0.heap.size) w lp um l p g m s
  new : (w0.heap.size ≤ p ∧ w0.heap.size ≤ g ∧ w0.heap.size ≤ m) ∧ w0.heap.size ≤ lp ∧ w0.heap.size ≤ um
  below : Below w0.heap.size w0 w
/-- Records in memory, their row behind the disk's. -/
def Recs (w : World) (g : Nat) (v : Value) (rs : List (List UInt8)) : Prop := ∃ cs, w.ownsRow (g + 1) 114 1 v rs.length cs ∧ RecsAt w cs rs
section
variable {w0 w w1 : World} {lp um p g m : Nat} {s s' : DS} {l l' : LS} {v : Value} {rs : List (List UInt8)} {e : Int}
theorem Sys.dsk (h : Sys w0 w lp um p g m s l) : Dsk w0 w p g m s := ⟨h.log.disk, h.new.1, h.below⟩
theorem Dsk.new_ext (h : Dsk w0 w p g m s) (hx : Ext (fun _ => False) w w1) : Dsk w0 w1 p g m s :=
  ⟨h.disk.kept_ext hx id id id (hx.keepT (fun _ _ _ _ => id)), h.new, h.below.trans ((hx.below (fun _ _ h => h) (Nat.le_refl _)).mono h.below.size)⟩
theorem Sys.new_ext (h : Sys w0 w lp um p g m s l) (hx : Ext (fun _ => False) w w1) : Sys w0 w1 lp um p g m s l :=
  ⟨h.log.past hx ⟨id, id, id, id, id⟩ (hx.keepT (fun _ _ _ _ => id)), h.new, h.below.trans ((hx.below (fun _ _ h => h) (Nat.le_refl _)).mono h.below.size)⟩
theorem Recs.new_ext (h : Recs w g v rs) (hx : Ext (fun _ => False) w w1) : Recs w1 g v rs := by
  obtain ⟨cs, h1, h2⟩ := h
  exact ⟨cs, own_keep h1 (hx.keepT (fun _ _ _ _ => id)), h2.kept (hx.keepT (fun _ _ _ _ => id))⟩
theorem Recs.form (h : Recs w g v rs) : ∃ a c, v = .slice a rs.length c := by
  obtain ⟨cs, h1, h2⟩ := h
  exact (Rd.of_own h1).form
theorem Recs.rd (h : Recs w g v rs) : ∃ cs, Rd w 114 1 v rs.length cs ∧ RecsAt w cs rs := by
  obtain ⟨cs, h1, h2⟩ := h
  exact ⟨cs, Rd.of_own h1, h2⟩
theorem Recs.nil (w : World) (g : Nat) : Recs w g (.slice none 0 0) [] := ⟨[], ⟨rfl, .inl ⟨rfl, rfl⟩⟩, rfl, by intro i v r q; simp at q⟩
/-- What is done to a disk and a log turns no other bytes, no other rows. -/
theorem LogAt.keepR {X : Nat → Prop} {S : Nat → Prop} (h : LogAt X w lp um l p g m s) (hx : Ext S w w1) (hS : ∀ k, S k → k = p ∨ k = g ∨ k = m ∨ k = um ∨ k = lp) (hr : Recs w g v rs) : Recs w1 g v rs := by
  have hlp := h.blk
  obtain ⟨es, cl, hu, _⟩ := h.und
  obtain ⟨sv, hp, cap, c2, _, hg, _⟩ := h.disk.blk
  obtain ⟨dl, ⟨es2, cl2, hm, _⟩, _⟩ := h.disk.map
  have h5 : KeepT 5 w w1 := by
    refine hx.keepT ?_
    intro b cur fr hq hs
    rcases hS b hs with rfl | rfl | rfl | rfl | rfl <;> simp_all
  obtain ⟨cs, h1, h2⟩ := hr
  refine ⟨cs, ⟨h1.1, ?_⟩, h2.kept h5⟩
  rcases h1.2 with h3 | ⟨b, cap', cur, hv, hb, hh, r⟩
  · exact .inl h3
  · refine .inr ⟨b, cap', cur, hv, hb, (hx.block b (lt_of_heap hh) (fun hs => ?_)).trans hh, r⟩
    rcases hS b hs with rfl | rfl | rfl | rfl | rfl
    · rw [hp] at hh; simp at hh
    · omega
    · rw [hm] at hh; simp at hh
    · rw [hu] at hh; simp at hh
    · rw [hlp] at hh; simp at hh
theorem DiskAt.keepR {X : Nat → Prop} {S : Nat → Prop} (h : DiskAt X w p g m s) (hx : Ext S w w1) (hS : ∀ k, S k → k = p ∨ k = g ∨ k = m) (hr : Recs w g v rs) : Recs w1 g v rs := by
  obtain ⟨sv, hp, cap, c2, _, hg, _⟩ := h.blk
  obtain ⟨dl, ⟨es2, cl2, hm, _⟩, _⟩ := h.map
  have h5 : KeepT 5 w w1 := by
    refine hx.keepT ?_
    intro b cur fr hq hs
    rcases hS b hs with rfl | rfl | rfl <;> simp_all
  obtain ⟨cs, h1, h2⟩ := hr
  refine ⟨cs, ⟨h1.1, ?_⟩, h2.kept h5⟩
  rcases h1.2 with h3 | ⟨b, cap', cur, hv, hb, hh, r⟩
  · exact .inl h3
  · refine .inr ⟨b, cap', cur, hv, hb, (hx.block b (lt_of_heap hh) (fun hs => ?_)).trans hh, r⟩
    rcases hS b hs with rfl | rfl | rfl
    · rw [hp] at hh; simp at hh
    · omega
    · rw [hm] at hh; simp at hh
theorem new_dsk (n size : Int) (w0 w : World) (hb : Below w0.heap.size w0 w) : Calls Tryz.prog 18 #[.int .i64 n, .int .i64 size] w fun e w' => ∃ p g m, e = .returned (.pointer (some ⟨p, 0, none⟩)) ∧ Hid (Dsk w0 w' p g m (DS.new n size) ∧ Below w.heap.size w w' ∧ g < w'.heap.size) := by
  refine (new_any n size w).mono ?_
  rintro e w' ⟨p, g, m, rfl, h1, h2, h3, h4, h5⟩
  have hs := hb.size
  have hd : DiskAt (· < w0.heap.size) w' p g m (DS.new n size) := h4.more (Ext.refl _ _) (fun k hk => .inl (by omega)) (fun k hk => by have := h5.size; omega)
  exact ⟨p, g, m, rfl, ⟨hd, ⟨by omega, by omega, by omega⟩, hb.trans (h5.mono hs)⟩, h5, h4.lt.2.1⟩
/-- A disk with a log on it is opened. -/
theorem open_sys {out : List (List UInt8)} (h : Dsk w0 w p g m s) (hi : Inv s l out) : Calls Tryz.prog 50 #[.pointer (some ⟨p, 0, none⟩)] w fun e w' =>
    ∃ lp um va vc, e = .returned (.tuple #[.pointer (some ⟨lp, 0, none⟩), .slice va out.length vc, .int .i64 0]) ∧ Hid (Sys w0 w' lp um p g m s l ∧ Recs w' g (.slice va out.length vc) out ∧ Below w.heap.size w w' ∧ w.heap.size ≤ lp ∧ w.heap.size ≤ um) := by
  refine (opened_any h.disk).mono ?_
  rintro e w' ⟨hp, hb⟩
  rw [hi.recover] at hp
  obtain ⟨lp, um, v, cs, rfl, h1, h2, h3, h4, h5⟩ := hp
  obtain ⟨va, vc, rfl⟩ := (Rd.of_own h4).form
  have hs := h.below.size
  have hg := h.disk.lt
  exact ⟨lp, um, va, vc, rfl, ⟨h3, ⟨h.new, by omega, by omega⟩, h.below.trans (hb.mono hs)⟩, ⟨cs, own_mono h4 (by omega), h5⟩, hb, h1, h2⟩
/-- Records are committed. -/
theorem commit_sys (h : Sys w0 w lp um p g m s l) (hu : l.undone = []) {n : Nat} {cs : List Value} (hv : Rd w 114 1 v n cs) (hr : RecsAt w cs rs) (ht : l.turn < 18446744073709551616) (hn : l.next < 18446744073709551616) (ha : l.at_ ≤ s.sure.length / 2) (hc : l.count + n ≤ 4611686018427387904) (hco : commitF s l rs = (s', l', e)) :
    Calls Tryz.prog 56 #[.pointer (some ⟨lp, 0, none⟩), v] w fun x w' => x = .returned (.int .i64 e) ∧ Hid (Sys w0 w' lp um p g m s' l' ∧ Ext (fun k => k = p ∨ k = g ∨ k = m ∨ k = um ∨ k = lp) w w') := by
  refine (commit_any h.log hu hv hr ht hn ha hc).mono ?_
  rintro x w' ⟨rfl, h1, h2⟩
  rw [hco] at h1 ⊢
  have hnw := h.new
  exact ⟨rfl, ⟨h1, h.new, h.below.trans (h2.below (B := w0.heap.size) (fun k hk q => by omega) h.below.size)⟩, h2⟩

theorem reset_sys (h : Sys w0 w lp um p g m s l) (hu : l.undone = []) {n : Nat} {cs : List Value} (hv : Rd w 114 1 v n cs) (hr : RecsAt w cs rs) (ht : l.turn < 18446744073709551616) (hco : resetF s l rs = (s', l', e)) :
    Calls Tryz.prog 98 #[.pointer (some ⟨lp, 0, none⟩), v] w fun x w' => x = .returned (.int .i64 e) ∧ Hid (Sys w0 w' lp um p g m s' l' ∧ Ext (fun k => k = p ∨ k = g ∨ k = m ∨ k = um ∨ k = lp) w w') := by
  refine (reset_any h.log hu hv hr ht).mono ?_
  rintro x w' ⟨rfl, h1, h2⟩
  rw [hco] at h1 ⊢
  have hnw := h.new
  exact ⟨rfl, ⟨h1, h.new, h.below.trans (h2.below (B := w0.heap.size) (fun k hk q => by omega) h.below.size)⟩, h2⟩
end

theorem Recs.at_ {w : World} {g : Nat} {v : Value} {rs : List (List UInt8)} (h : Recs w g v rs) : ∀ i X, rs[i]? = some X → ∃ b c xa xc, v = .slice (some ⟨b, 0, none⟩) rs.length c ∧ w.cell? ⟨b, i, none⟩ = some (.slice xa X.length xc) ∧ Rd w 5 1 (.slice xa X.length xc) X.length (u8s X) := by
  intro i X hX
  obtain ⟨cs, h1, h2⟩ := h
  have hi : i < rs.length := (List.getElem?_eq_some_iff.1 hX).1
  obtain ⟨b, c, rfl, _⟩ := h1.form (by omega)
  have hcs : i < cs.length := by rw [h2.1]; exact hi
  have q := h2.2 i _ _ (List.getElem?_eq_getElem hcs) hX
  obtain ⟨xa, xc, hx⟩ := q.form
  obtain ⟨b', off, c', e1, _, hc⟩ := (Rd.of_own h1).cell (by omega)
  simp only [Value.slice.injEq, true_and, Option.some.injEq, Addr.mk.injEq] at e1
  obtain ⟨⟨rfl, rfl, _⟩, rfl⟩ := e1
  have d := hc i (by omega)
  rw [List.getElem?_eq_getElem hcs, hx, Nat.zero_add] at d
  rw [hx] at q
  exact ⟨b, c, xa, xc, rfl, d, q⟩
section
variable {w0 w w1 : World} {lp um p g m : Nat} {s s' : DS} {l l' : LS} {v : Value} {rs : List (List UInt8)} {e : Int}
theorem Sys.went (h : Sys w0 w lp um p g m s l) (h' : Dsk w0 w1 p g m s') (hx : Ext (fun k => k = p ∨ k = g ∨ k = m) w w1) : Sys w0 w1 lp um p g m s' l :=
  ⟨h.log.went hx (fun _ h => h) h'.disk, h.new, h'.below⟩
theorem Dsk.step (h : Dsk w0 w p g m s) (hd : DiskAt (· < w0.heap.size) w1 p g m s') {S : Nat → Prop} (hx : Ext S w w1) (hS : ∀ k, S k → k = p ∨ k = g ∨ k = m) : Dsk w0 w1 p g m s' :=
  ⟨hd, h.new, h.below.trans (hx.below (B := w0.heap.size) (fun k hk q => by have := h.new; have := hS k q; omega) h.below.size)⟩
theorem flush_dsk (h : Dsk w0 w p g m s) : Calls Tryz.prog 161 #[.pointer (some ⟨p, 0, none⟩)] w fun e w' => e = .returned (.int .i64 s.flush.2) ∧ Hid (Dsk w0 w' p g m s.flush.1 ∧ Ext (fun k => k = p ∨ k = g ∨ k = m) w w') := by
  refine (flush_any h.disk).mono ?_
  rintro e w' ⟨rfl, hd, hx⟩
  exact ⟨rfl, h.step hd hx (fun _ h => h), hx⟩
theorem write_dsk (h : Dsk w0 w p g m s) (i : Int) {n : Nat} {b : List UInt8} (hv : Rd w 5 1 v n (u8s b)) : Calls Tryz.prog 162 #[.pointer (some ⟨p, 0, none⟩), .int .i64 i, v] w fun e w' => e = .returned (.int .i64 (s.write i b).2) ∧ Hid (Dsk w0 w' p g m (s.write i b).1 ∧ Ext (fun k => k = p ∨ k = g ∨ k = m) w w') := by
  refine (write_any h.disk i hv).mono ?_
  rintro e w' ⟨rfl, hd, hx⟩
  exact ⟨rfl, h.step hd hx (fun k q => by rcases q with q | q <;> simp [q]), hx.mono (fun k _ q => by rcases q with q | q <;> simp [q])⟩
/-- A disk is opened, whatever is told. -/
theorem open_dsk (h : Dsk w0 w p g m s) : Calls Tryz.prog 50 #[.pointer (some ⟨p, 0, none⟩)] w fun e w' => ∃ r, e = .returned r ∧ Hid (Dsk w0 w' p g m s ∧ Ext (fun _ => False) w w') := by
  refine (opened_any h.disk).mono ?_
  rintro e w' ⟨hp, hb⟩
  have hx : Ext (fun _ => False) w w' := Ext.of_below hb (Nat.le_refl _)
  have hr : ∃ r, e = .returned r := by
    split at hp
    · obtain ⟨_, _, _, _, rfl, _⟩ := hp
      exact ⟨_, rfl⟩
    · exact ⟨_, hp⟩
  obtain ⟨r, rfl⟩ := hr
  exact ⟨r, rfl, h.new_ext hx, hx⟩
/-- A crash of a disk on which all is sure turns nothing. -/
theorem Inv.calm {out : List (List UInt8)} (h : Inv s l out) (c : Int) (hc : c ≤ 9223372036854775807) (keep : Nat) : Inv ((s.cutAt c).crash keep (-1) 0) l out := by
  have hok : (s.cutAt c).Ok := h.live.ok.cutTo (max c 0) (by omega) (by omega)
  obtain ⟨h1, h2, h3, h4⟩ := crash_live hok keep
  refine h.mix h1 h2 h3 h4 (fun j hj => .inl ?_)
  have hd : (s.cutAt c).dirty = [] := h.clean
  rw [dead_cut hok keep (fun j => by rw [hd]; rfl)]
  unfold DS.last
  rw [h.clean]
  rfl
end
end Go.Proofs.YtekolejeliefdaaGreat
