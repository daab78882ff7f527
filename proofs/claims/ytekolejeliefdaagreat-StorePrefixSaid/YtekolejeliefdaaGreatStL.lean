/- A store's Apply. -/
import Derived.Test.YtekolejeliefdaaGreatStK
set_option linter.unusedVariables false
set_option linter.unusedSimpArgs false
namespace Go.Proofs.YtekolejeliefdaaGreat
open Go.RowKit

/-- A pair's record. -/
def recP (q : SP) : List UInt8 := pairF q.1 q.2.1 q.2.2
theorem recs_take (ps : List SP) (j : Nat) (q : SP) (h : ps[j]? = some q) : (ps.take (j + 1)).map recP = (ps.take j).map recP ++ [recP q] := by
  rw [List.take_add_one, h]
  simp

theorem Sys.past5 {S : Nat → Prop} {w0 w w1 : World} {lp um p g m : Nat} {s : DS} {l : LS} (h : Sys w0 w lp um p g m s l) (hx : Ext S w w1) (hs : ¬ S lp ∧ ¬ S um ∧ ¬ S p ∧ ¬ S g ∧ ¬ S m) (hk : KeepT 5 w w1) (hb : ∀ k, S k → w0.heap.size ≤ k) :
    Sys w0 w1 lp um p g m s l :=
  ⟨h.log.past hx hs hk, h.new, h.below.trans (hx.below (B := w0.heap.size) (fun k hk q => by have := hb k q; omega) h.below.size)⟩

set_option maxRecDepth 100000 in
set_option maxHeartbeats 2000000 in
theorem apply_any {w0 w : World} {sp b lp um p g m : Nat} {s s' : DS} {l l' : LS} {d : SM} (h : Sto w0 w sp b lp um p g m s l d) {v : Value} {n : Nat} {ps : List SP} (hv : Rd w 54 3 v n (spcells ps))
    (hk : ∀ q ∈ ps, q.1.length ≤ 1000 ∧ q.2.1.length ≤ 1000) (hn : n ≤ 1000) (hd : d.length ≤ 1000000) (hu : l.undone = []) (ht : l.turn < 18446744073709551616) (hnx : l.next < 18446744073709551616) (ha : l.at_ ≤ s.sure.length / 2)
    (hc : l.count + n ≤ 4611686018427387904) (hco : commitF s l (ps.map recP) = (s', l', 0)) :
    Calls Tryz.prog 20 #[.pointer (some ⟨sp, 0, none⟩), v] w fun e w' => e = .returned (.int .i64 0) ∧ ∃ b', Hid (Sto w0 w' sp b' lp um p g m s' l' (chg d ps) ∧ w.heap.size ≤ b' ∧ Ext (fun k => k = p ∨ k = g ∨ k = m ∨ k = um ∨ k = lp ∨ k = sp) w w') := by
  obtain ⟨a, c, rfl⟩ := hv.form
  have hn3 : ps.length = n := by have := hv.1; rw [spcells_length] at this; omega
  have c2 := cell_of_block h.st 2
  simp at c2
  have H := Lib.hid (And.intro hv (And.intro h (And.intro hk (And.intro hd (And.intro hu (And.intro ht (And.intro hnx (And.intro ha (And.intro hc (And.intro hco hn3))))))))))
  have hn2 : (n : Int) ≤ 1000 := by omega
  clear hv h hk hd hu ht hnx ha hc hco hn3
  go_enter Tryz.func20, Tryz.ntmps20
  go_wp2_with fail
  go_loopw [5, 7, 16] (fun ov _ iv wr => ∃ (j : Nat) (a5 : Option Addr) (c5 : Nat), j ≤ n ∧ iv = .int .i64 j ∧ ov = .slice a5 j c5 ∧ Hid (∃ cs, wr.ownsRow w.heap.size 114 1 (.slice a5 j c5) j cs ∧ RecsAt wr cs ((ps.take j).map recP) ∧ Below w.heap.size w wr)) (fun _ _ iv _ => n - (intOf iv).toNat)
  case atStart => exact ⟨0, none, 0, by omega, rfl, rfl, [], ⟨rfl, .inl ⟨rfl, rfl⟩⟩, ⟨by simp, by intro i v r q; simp at q⟩, Below.refl _ _⟩
  case round =>
    obtain ⟨j, a5, c5, hj, rfl, rfl, hin⟩ := hrel
    by_cases hjn : j < n
    · obtain ⟨cs, ho, hra, hb⟩ := hin.out
      obtain ⟨q, hq⟩ : ∃ q, ps[j]? = some q := ⟨_, List.getElem?_eq_getElem (by have := H.out.2.2.2.2.2.2.2.2.2.2; omega)⟩
      obtain ⟨k, x, g'⟩ := q
      have hv := H.out.1.kept (w1 := wr) (fun b' cur fr q => (hb.block b' (lt_of_heap q)).trans q)
      obtain ⟨bk, off, c', e1, _, hc⟩ := hv.cell (by omega)
      simp only [Value.slice.injEq, true_and] at e1
      obtain ⟨rfl, rfl⟩ := e1
      obtain ⟨p0, p1, p2⟩ := spcells_at ps j _ hq
      have h0 := hc (j * 3) (by omega)
      have h1 := hc (j * 3 + 1) (by omega)
      have h2 := hc (j * 3 + 2) (by omega)
      rw [p0] at h0
      rw [p1] at h1
      rw [p2] at h2
      rw [← Nat.add_assoc] at h1 h2
      obtain ⟨hkl, hxl⟩ := H.out.2.2.1 _ (List.mem_of_getElem? hq)
      simp only at hkl hxl
      have hkl' : (k.length : Int) ≤ 1000 := by omega
      have hxl' : (x.length : Int) ≤ 1000 := by omega
      have hx0 : Ext (fun _ => False) wr (wr.alloc (.cells #[.string ⟨k.toArray⟩, .string ⟨x.toArray⟩, .bool g'] 54)) := (Ext.refl _ wr).alloc _
      have HB : Hid (Calls Tryz.prog 53 #[.agg #[.string ⟨k.toArray⟩, .string ⟨x.toArray⟩, .bool g']] (wr.alloc (.cells #[.string ⟨k.toArray⟩, .string ⟨x.toArray⟩, .bool g'] 54)) fun e w' => ∃ ua um uc, e = .returned (.slice ua um uc) ∧
          Hid (Rd w' 5 1 (.slice ua um uc) (recP (k, x, g')).length (u8s (recP (k, x, g'))) ∧ Ext (fun _ => False) wr w')) := by
        refine (sbytes_any _ k x g' (by omega) (by omega)).mono ?_
        rintro e w' ⟨u, rfl, q1, q2⟩
        obtain ⟨ua, uc, rfl⟩ := (Rd.of_own q1).form
        exact ⟨ua, _, uc, rfl, Rd.of_own q1, hx0.trans (Ext.of_below q2 (Nat.le_refl _))⟩
      have hrt := recs_take ps j _ hq
      have HIN := Lib.hid (And.intro ho (And.intro hra (And.intro hb hrt)))
      clear hin ho hra hb hv hc p0 p1 p2 hq hx0 hrt hkl hxl
      cases g' <;>
      · go_wp2_with fail
        refine HB.out.mono ?_
        rintro e w2 ⟨ua, um, uc, rfl, H2⟩
        obtain ⟨ho, hra, hb, hrt⟩ := HIN.out
        have hx4 : Ext (fun _ => False) wr (w2.alloc (.cells #[.slice ua um uc] 114)) := H2.out.2.alloc _
        have HO := Lib.hid (own_keep ho (hx4.keepT (fun _ _ _ _ => id)))
        have HN := Lib.hid (Rd.one w2 (.slice ua um uc) 114)
        have HBZ : Hid (w.heap.size ≤ (w2.alloc (.cells #[.slice ua um uc] 114)).heap.size) := Nat.le_trans hb.size hx4.size
        have HX4 := Lib.hid hx4
        clear ho hra hb hrt hx4
        go_wp2_with (at_builtin; refine wpList_app rfl (.tmp 39) (.tmp 42) 108 rfl w.heap.size 114 1 24 (.slice none 0 0) Tryz.underlying108 (by kernel_rfl) rfl (by omega) (.slice a5 j c5) j _ rfl HO.out _ 1 [.slice ua um uc] 114 rfl HN.out (by intro u hu; rw [List.mem_singleton.1 hu]; rfl) (by simp only [maxLen]; omega) (by omega) HBZ.out ?_; intro v7 w4 o1 o2 _; obtain ⟨a7, c7, rfl⟩ := (Rd.of_own o1).form; have O := Lib.hid (And.intro o1 o2); clear o1 o2)
        obtain ⟨o1, o2⟩ := O.out
        obtain ⟨ho, hra, hb, hrt⟩ := HIN.out
        have hk1 : KeepT 5 w2 w4 := (((Ext.refl (fun _ => False) w2).alloc _).keepT (fun _ _ _ _ => id)).trans (grown_keepT (e' := 5) HO.out o2 (by decide))
        have hk2 : KeepT 5 wr w4 := (H2.out.2.keepT (fun _ _ _ _ => id)).trans hk1
        have hb4 : Below w.heap.size w w4 := (hb.trans ((HX4.out.below (fun _ _ h => h) (Nat.le_refl _)).mono hb.size)).grown o2 HBZ.out (fun k hk => (HO.out.lt k hk).1)
        refine ⟨⟨j + 1, a7, c7, by omega, by go_num, rfl, _, o1, ?_, hb4⟩, by simp [intOf]; omega⟩
        rw [hrt]
        exact (hra.kept hk2).snoc (H2.out.1.kept hk1)
    · obtain rfl : j = n := by omega
      obtain ⟨cs, ho, hra, hb⟩ := hin.out
      obtain ⟨hv, hst, hk, hd, hu, ht, hnx, ha, hc, hco, hn3⟩ := H.out
      rw [List.take_of_length_le (by omega)] at hra
      have hst1 : Sto w0 wr sp b lp um p g m s l d := hst.new_ext (Ext.of_below hb (Nat.le_refl _))
      have c1 := cell_of_block hst1.st 1
      simp at c1
      have hv1 := hv.kept (w1 := wr) (fun b' cur fr q => (hb.block b' (lt_of_heap q)).trans q)
      have HC : Hid (Calls Tryz.prog 54 #[.map (some b)] wr fun e w' => e = .returned (.map (some wr.heap.size)) ∧ Hid (SMap w' wr.heap.size d ∧ Below wr.heap.size wr w')) := by
        refine (sclone_any hst1.mp).mono ?_
        rintro e w' ⟨rfl, q1, q2⟩
        exact ⟨rfl, q1, q2⟩
      have H1 := Lib.hid (And.intro hst1 (And.intro hv1 (And.intro ho (And.intro hra hb))))
      clear hin ho hra hb hv hst hk hd hu ht hnx ha hc hco hn3 hst1 hv1
      go_wp2_with fail
      refine HC.out.mono ?_
      rintro e w2 ⟨rfl, H2⟩
      have HG : Hid (Calls Tryz.prog 52 #[.map (some wr.heap.size), .slice a j c] w2 fun e w' => e = .returned (.tuple #[]) ∧ w'.cell? ⟨sp, 0, none⟩ = some (.pointer (some ⟨lp, 0, none⟩)) ∧ Hid (SMap w' wr.heap.size (chg d ps) ∧ Ext (fun _ => False) wr w' ∧ Sto w0 w' sp b lp um p g m s l d)) := by
        have hx : Ext (fun _ => False) wr w2 := Ext.of_below H2.out.2 (Nat.le_refl _)
        refine (change_any (H1.out.2.1.kept (w1 := w2) fun b' cur fr q => (hx.block b' (lt_of_heap q) id).trans q) H2.out.1 (fun q hq => by have := (H.out.2.2.1 q hq).1; omega) (by have := H.out.2.2.2.1; omega)).mono ?_
        rintro e w' ⟨rfl, q1, q2⟩
        have hx2 : Ext (fun _ => False) wr w' := hx.andThen q2 (fun i hi hq => by omega)
        have hs2 := H1.out.1.new_ext hx2
        have c0 := cell_of_block hs2.st 0
        simp at c0
        exact ⟨rfl, c0, q1, hx2, hs2⟩
      go_wp2_with fail
      refine HG.out.mono ?_
      rintro e w3 ⟨rfl, c0, H3⟩
      have HCO : Hid (Calls Tryz.prog 56 #[.pointer (some ⟨lp, 0, none⟩), .slice a5 j c5] w3 fun e w' => e = .returned (.int .i64 0) ∧ w'.cell? ⟨sp, 1, none⟩ = some (.map (some b)) ∧ w'.frozen? ⟨sp, 1, none⟩ = false ∧
          Hid (Sto w0 (w'.setCell ⟨sp, 1, none⟩ (.map (some wr.heap.size))) sp wr.heap.size lp um p g m s' l' (chg d ps) ∧ Ext (fun k => k = p ∨ k = g ∨ k = m ∨ k = um ∨ k = lp ∨ k = sp) w (w'.setCell ⟨sp, 1, none⟩ (.map (some wr.heap.size))))) := by
        obtain ⟨cs, ho, hra, hb⟩ := (show ∃ cs, wr.ownsRow w.heap.size 114 1 (.slice a5 j c5) j cs ∧ RecsAt wr cs (ps.map recP) ∧ Below w.heap.size w wr from ⟨_, H1.out.2.2.1, H1.out.2.2.2.1, H1.out.2.2.2.2⟩)
        obtain ⟨hv, hst, hk, hd, hu, ht, hnx, ha, hc, hco, hn3⟩ := H.out
        obtain ⟨q1, hx3, hs3⟩ := H3.out
        refine (commit_sys hs3.sys hu (Rd.of_own (own_keep ho (hx3.keepT (fun _ _ _ _ => id)))) (hra.kept (hx3.keepT (fun _ _ _ _ => id))) ht hnx ha hc hco).mono ?_
        rintro e w' ⟨rfl, hy⟩
        obtain ⟨r1, r2⟩ := hy.out
        have hap := hs3.apart
        have hlt := hs3.lt
        have hst' := (r2.block sp hlt.1 (by omega)).trans hs3.st
        have k1 := cell_of_block hst' 1
        simp at k1
        have hwl : w.heap.size ≤ wr.heap.size := hb.size
        have hw0 := hst.sys.below.size
        have hmlt := MapL.lt q1
        have hl3 := hst.lt
        have hsys := hst.sys.log.lt
        have hdk := hst.sys.log.disk.lt
        have hm' : SMap w' wr.heap.size (chg d ps) := MapL.kept q1 (r2.block _ hmlt (by omega))
        have hxs : Ext (· = sp) w' (w'.setCell ⟨sp, 1, none⟩ (.map (some wr.heap.size))) := Ext.setCell (S := (· = sp)) (Ext.refl _ w') (fun _ => rfl) _
        have hkt : KeepT 5 w' (w'.setCell ⟨sp, 1, none⟩ (.map (some wr.heap.size))) := fun b' cur fr q => (heap_setCell_ne (by rintro rfl; simp [hst'] at q) _).trans q
        refine ⟨rfl, k1, free_of_block hst' 1, ⟨r1.past5 hxs (by omega) hkt (fun k q => by subst q; exact hst.new.1), heap_setCell_at (i := 1) hst' _, MapL.kept hm' (heap_setCell_ne (by simp; omega) _), ⟨hst.new.1, by omega⟩, ⟨by omega, by omega⟩⟩, ?_⟩
        have hx4 : Ext (fun k => k = p ∨ k = g ∨ k = m ∨ k = um ∨ k = lp ∨ k = sp) w w' := ((Ext.of_below hb (Nat.le_refl _)).trans (hx3.mono fun _ _ q => q.elim)).trans (r2.mono fun k _ q => by omega)
        exact hx4.setCell (fun _ => by simp) _
      go_wp2_with fail
      refine HCO.out.mono ?_
      rintro e w4 ⟨rfl, c4, f4, H4⟩
      have HNO := Lib.hid (noted_any sp w4)
      go_wp2_with fail
      refine HNO.out.mono ?_
      rintro e w5 ⟨rfl, rfl⟩
      go_wp2_with fail
      go_ret
      exact ⟨rfl, _, H4.out.1, by have := H1.out.2.2.2.2.size; omega, H4.out.2⟩

end Go.Proofs.YtekolejeliefdaaGreat
