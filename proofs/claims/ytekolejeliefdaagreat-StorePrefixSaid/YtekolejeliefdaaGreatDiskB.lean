/- The disk: the methods that read and write it. -/
import Derived.Test.YtekolejeliefdaaGreatDiskA
import Derived.Test.YtekolejeliefdaaGreatShelfA
import Derived.StillTailTactics
import Derived.Deep.RegionHeld3
set_option linter.unusedVariables false
set_option linter.unusedSimpArgs false
namespace Go.Proofs.YtekolejeliefdaaGreat
open Go.RowKit
variable {X : Nat → Prop}

theorem u8s_oneCell (xs : List UInt8) : ∀ u ∈ u8s xs, u.oneCell' = true := by
  intro u hu
  simp only [u8s, List.mem_map] at hu
  obtain ⟨x, _, rfl⟩ := hu
  rfl
theorem u8s_length (xs : List UInt8) : (u8s xs).length = xs.length := by simp [u8s]

section
variable {w w1 : World} {p g m : Nat} {s : DS}

/-- A store into the disk's own block. -/
theorem DiskAt.put (h : DiskAt X w p g m s) {i : Nat} {u : Value} {c : Int} {d : Bool} (hc1 : -1 ≤ c) (hc2 : c ≤ 9223372036854775807)
    (hs : ∀ sv : Value, (#[sv, .map (some m), .int .i64 s.cut, .bool s.dead] : Array Value).setIfInBounds i u = #[sv, .map (some m), .int .i64 c, .bool d]) :
    DiskAt X (w.setCell ⟨p, i, none⟩ u) p g m { s with cut := c, dead := d } := by
  obtain ⟨hpg, hpm, hgm⟩ := h.ne
  have hk : KeepT 5 w (w.setCell ⟨p, i, none⟩ u) := by
    obtain ⟨sv, hb, _⟩ := h.blk
    intro b cur fr hq
    rw [heap_setCell_ne (by intro e; subst e; simp [hb] at hq)]
    exact hq
  obtain ⟨o1, o2, o3, o4, o5, o6, o7, o8, o9⟩ := h.ok
  refine ⟨⟨o1, o2, o3, o4, o5, o6, o7, hc1, hc2⟩, ?_, ?_, fun k hk => by simpa [World.setCell] using h.low k hk, h.off⟩
  · obtain ⟨sv, hb, cap, cur, e, hg', h1, h2, h3, h4⟩ := h.blk
    refine ⟨sv, ?_, cap, cur, e, ?_, h1, h2, h3, fun i x hx => ?_⟩
    · rw [heap_setCell_at hb, hs]
    · rw [heap_setCell_ne (Ne.symm hpg)]; exact hg'
    · obtain ⟨v, hv, hr⟩ := h4 i x hx
      exact ⟨v, hv, hr.kept hk⟩
  · obtain ⟨l, h1, h2⟩ := h.map
    exact ⟨l, h1.kept (heap_setCell_ne (Ne.symm hpm) _), h2.kept hk⟩

theorem powered_any (h : DiskAt X w p g m s) : Calls Tryz.prog 177 #[.pointer (some ⟨p, 0, none⟩)] w fun e w' =>
    e = .returned (.int .i64 (if s.power.2 then 0 else 32)) ∧ DiskAt X w' p g m s.power.1 ∧ Ext (· = p) w w' := by
  obtain ⟨sv, hb, _⟩ := h.blk
  have c2 := cell_of_block hb 2
  have c3 := cell_of_block hb 3
  have f := free_of_block hb
  simp at c2 c3
  have hc1 := h.ok.c1
  have hc2 := h.ok.c2
  have p0 : s.cut = 0 → s.power = ({ s with dead := true }, false) := fun e => by simp [DS.power, e]
  have p1 : 0 < s.cut → s.power = ({ s with cut := s.cut - 1 }, true) := fun e => by simp [DS.power, e, show ¬ s.cut = 0 by omega]
  have p2 : s.cut < 0 → s.power = (s, true) := fun e => by simp [DS.power, show ¬ s.cut = 0 by omega, show ¬ 0 < s.cut by omega]
  have hd : DiskAt X (w.setCell ⟨p, 3, none⟩ (.bool true)) p g m { s with cut := s.cut, dead := true } := h.put hc1 hc2 (fun sv => rfl)
  have hq : 0 < s.cut → DiskAt X (w.setCell ⟨p, 2, none⟩ (.int .i64 (s.cut - 1))) p g m { s with cut := s.cut - 1, dead := s.dead } := fun e => h.put (by omega) (by omega) (fun sv => rfl)
  have f2 := f 2
  have f3 := f 3
  clear hb f
  rcases Int.lt_trichotomy s.cut 0 with h0 | h0 | h0
  · have e1 : (s.cut == 0) = false := by rw [beq_eq_false_iff_ne]; omega
    rw [p2 h0]
    refine Calls.mono (R := fun e w' => e = .returned (.int .i64 0) ∧ w' = w) ?_ (by rintro e w' ⟨rfl, rfl⟩; exact ⟨rfl, h, Ext.refl _ _⟩)
    clear p0 p1 p2 hd hq h
    generalize s.cut = c at *
    go_enter Tryz.func177, Tryz.ntmps177
    go_wp2
    go_ret
    exact ⟨rfl, rfl⟩
  · have e1 : (s.cut == 0) = true := by rw [beq_iff_eq]; omega
    rw [p0 h0]
    refine Calls.mono (R := fun e w' => e = .returned (.int .i64 32) ∧ w' = w.setCell ⟨p, 3, none⟩ (.bool true)) ?_ (by rintro e w' ⟨rfl, rfl⟩; exact ⟨rfl, hd, (Ext.refl (· = p) _).setCell (fun _ => rfl) _⟩)
    clear p0 p1 p2 hq h0 h hd
    generalize s.cut = c at *
    go_enter Tryz.func177, Tryz.ntmps177
    go_wp2
    go_ret
    exact ⟨rfl, rfl⟩
  · have e1 : (s.cut == 0) = false := by rw [beq_eq_false_iff_ne]; omega
    rw [p1 h0]
    replace hq := hq h0
    refine Calls.mono (R := fun e w' => e = .returned (.int .i64 0) ∧ w' = w.setCell ⟨p, 2, none⟩ (.int .i64 (s.cut - 1))) ?_ (by rintro e w' ⟨rfl, rfl⟩; exact ⟨rfl, hq, (Ext.refl (· = p) _).setCell (fun _ => rfl) _⟩)
    clear p0 p1 p2 hd h hq
    generalize s.cut = c at *
    go_enter Tryz.func177, Tryz.ntmps177
    go_wp2
    go_ret
    exact ⟨rfl, rfl⟩

def dget (d : List (Nat × List UInt8)) (i : Nat) : Option (List UInt8) := (d.find? (fun q => q.1 == i)).map (·.2)
theorem dget_cons (q : Nat × List UInt8) (d : List (Nat × List UInt8)) (i : Nat) : dget (q :: d) i = if q.1 = i then some q.2 else dget d i := by
  simp only [dget, List.find?_cons]
  by_cases e : q.1 = i
  · simp [e]
  · have : (q.1 == i) = false := by simpa using e
    simp only [this, e, if_false]
theorem DRel.get {w : World} {z : Nat} (i : Nat) : ∀ {l : ME} {d : List (Nat × List UInt8)}, DRel X w z l d →
    (∃ x v, dget d i = some x ∧ lget l (.int .i64 i) = some v ∧ RdX X w 5 1 v z (u8s x)) ∨ (dget d i = none ∧ lget l (.int .i64 i) = none)
  | [], [], _ => .inr ⟨rfl, rfl⟩
  | p :: l, q :: d, h => by
    obtain ⟨h1, h2, h3⟩ := h
    simp only [dget_cons, lget_cons, h1, sameKey_int]
    by_cases e : q.1 = i
    · subst e
      exact .inl ⟨q.2, p.2, by simp, by simp, h2⟩
    · have e' : ¬ (q.1 : Int) = i := by omega
      simp only [e, e', if_false, decide_false, Bool.false_eq_true]
      exact DRel.get i h3

def DS.last (s : DS) (i : Nat) : List UInt8 := (dget s.dirty i).getD (s.sure.getD i [])
def DS.read (s : DS) (i : Int) : List UInt8 := if s.at i = 0 then s.last i.toNat else []

set_option maxHeartbeats 400000 in
theorem read_any {w : World} {p g m : Nat} {s : DS} (h : DiskAt X w p g m s) (i : Int) : Calls Tryz.prog 154 #[.pointer (some ⟨p, 0, none⟩), .int .i64 i] w fun e w' =>
    ∃ v, e = .returned (.tuple #[v, .int .i64 (s.at i)]) ∧ w'.ownsRow w.heap.size 5 1 v (s.read i).length (u8s (s.read i)) ∧ Below w.heap.size w w' := by
  by_cases he : s.at i = 0
  · have hi : 0 ≤ i ∧ i < s.sure.length := by
      unfold DS.at at he
      split at he
      · omega
      · split at he <;> omega
    obtain ⟨n, rfl⟩ := Int.eq_ofNat_of_zero_le hi.1
    have hlen : s.sure.length ≤ 4096 := h.ok.n2
    have hz := h.ok.z2
    have e0 := at_any h (n : Int)
    rw [he] at e0 ⊢
    have H := Lib.hid e0
    clear e0
    have e1 : s.read n = s.last n := by simp [DS.read, he]
    rw [e1]
    obtain ⟨sv, hb, cap, cur, rfl, hg, hc, _, _, hr⟩ := h.blk
    obtain ⟨l, hm, hd⟩ := h.map
    have c0 := cell_of_block hb 0
    have c1 := cell_of_block hb 1
    simp at c0 c1
    obtain ⟨vs, hvs, hrs⟩ := hr n _ (List.getElem?_eq_getElem (show n < s.sure.length by omega))
    have cg := cell_of_block hg n
    rw [hvs] at cg
    have hkey : keyOf Tryz.prog 3 (.int .i64 (n : Int)) = some (.int .i64 (n : Int)) := Maps.keyOf_int_mk Tryz.underlying3 (WalkArith.wf_i64 (by omega))
    have hlk := hm.look_ok (Maps.int_keyed Tryz.underlying3) Tryz.underlying107 Tryz.zeroValue114 hkey
    have hn1 : n < s.sure.length := by omega
    rcases hd.get n with ⟨x, v, d1, d2, hrd⟩ | ⟨d1, d2⟩
    · have hlast : s.last n = x := by simp [DS.last, d1]
      have hxl : x.length = s.size := by
        have := hrd.1.1
        simpa [u8s] using this
      rw [hlast, hxl]
      rw [d2] at hlk
      simp only [Option.getD_some, Option.isSome_some] at hlk
      have hcl := cloneB_any hrd.1 (u8s_oneCell x) (by omega)
      have HC := Lib.hid hcl
      clear hcl hrd hrs hr hd hm hb hg h hlast d1 d2 hvs cg
      go_enter Tryz.func154, Tryz.ntmps154
      go_wp2_with (first | (go_at_call 176; refine H.out.mono ?_; rintro e w' ⟨rfl, rfl⟩) | (go_at_call 133; refine HC.out.mono ?_; rintro e w' ⟨v', rfl, ho, hbl⟩))
      go_ret2
      exact ⟨v', rfl, ho, hbl⟩
    · have hlast : s.last n = s.sure[n] := by simp [DS.last, d1, hn1]
      have hxl : s.sure[n].length = s.size := h.ok.sz _ (List.getElem_mem _)
      rw [hlast, hxl]
      rw [d2] at hlk
      simp only [Option.getD_none, Option.isSome_none] at hlk
      have hcl := cloneB_any hrs.1 (u8s_oneCell _) (by omega)
      have HC := Lib.hid hcl
      clear hcl hrs hr hd hm hb hg h hlast d1 d2 hvs
      go_enter Tryz.func154, Tryz.ntmps154
      go_wp2_with (first | (go_at_call 176; refine H.out.mono ?_; rintro e w' ⟨rfl, rfl⟩) | (go_at_call 133; refine HC.out.mono ?_; rintro e w' ⟨v', rfl, ho, hbl⟩))
      go_ret2
      exact ⟨v', rfl, ho, hbl⟩
  · have e1 : s.read i = [] := by simp [DS.read, he]
    rw [e1]
    have e2 : (!(s.at i == 0)) = true := by simpa using he
    have e3 := at_any h i
    generalize s.at i = x at *
    clear h
    refine Calls.mono (R := fun e w' => e = .returned (.tuple #[.slice none 0 0, .int .i64 x]) ∧ w' = w) ?_ (by rintro e w' ⟨rfl, rfl⟩; exact ⟨_, rfl, World.ownsRow_nil _ _ _ _, Below.refl _ _⟩)
    have H := Lib.hid e3
    clear e3
    go_enter Tryz.func154, Tryz.ntmps154
    go_wp2_with (go_at_call 176; refine H.out.mono ?_; rintro e w' ⟨rfl, rfl⟩)
    go_ret2
    exact ⟨rfl, rfl⟩
end

def dins (x : Nat × List UInt8) : List (Nat × List UInt8) → List (Nat × List UInt8)
  | [] => [x]
  | y :: r => if x.1 < y.1 then x :: y :: r else y :: dins x r
def dput (d : List (Nat × List UInt8)) (i : Nat) (x : List UInt8) : List (Nat × List UInt8) := dins (i, x) (d.filter (fun q => !(q.1 == i)))

theorem DRel.ins {w : World} {z : Nat} {i : Nat} {v : Value} {x : List UInt8} (hv : RdX X w 5 1 v z (u8s x)) : ∀ {l : ME} {d : List (Nat × List UInt8)}, DRel X w z l d → DRel X w z (lins (.int .i64 i, v) l) (dins (i, x) d)
  | [], [], _ => ⟨rfl, hv, trivial⟩
  | p :: l, q :: d, h => by
    obtain ⟨h1, h2, h3⟩ := h
    simp only [lins, dins, h1, Lit.before, Int.ofNat_lt]
    by_cases e : i < q.1
    · simp only [e, decide_true, if_true]
      exact ⟨rfl, hv, h1, h2, h3⟩
    · simp only [e, decide_false, if_false, Bool.false_eq_true]
      exact ⟨h1, h2, DRel.ins hv h3⟩
theorem DRel.del {w : World} {z : Nat} (i : Nat) : ∀ {l : ME} {d : List (Nat × List UInt8)}, DRel X w z l d → DRel X w z (ldel l (.int .i64 i)) (d.filter (fun q => !(q.1 == i)))
  | [], [], _ => trivial
  | p :: l, q :: d, h => by
    obtain ⟨h1, h2, h3⟩ := h
    simp only [ldel, List.filter_cons, h1, sameKey_int]
    have ih := DRel.del i h3
    simp only [ldel] at ih
    by_cases e : q.1 = i
    · subst e
      simpa using ih
    · have e' : ¬ (q.1 : Int) = i := by omega
      simp only [e', decide_false, Bool.not_false, if_true, beq_eq_false_iff_ne.2 e]
      exact ⟨h1, h2, ih⟩
theorem DRel.put {w : World} {z : Nat} {i : Nat} {v : Value} {x : List UInt8} {l : ME} {d : List (Nat × List UInt8)} (h : DRel X w z l d) (hv : RdX X w 5 1 v z (u8s x)) : DRel X w z (lput l (.int .i64 i) v) (dput d i x) :=
  (h.del i).ins hv
theorem DRel.length {w : World} {z : Nat} : ∀ {l : ME} {d : List (Nat × List UInt8)}, DRel X w z l d → l.length = d.length
  | [], [], _ => rfl
  | p :: l, q :: d, h => by simp [DRel.length h.2.2]

theorem mem_dins (x : Nat × List UInt8) : ∀ (d : List (Nat × List UInt8)) (y : Nat × List UInt8), y ∈ dins x d → y = x ∨ y ∈ d
  | [], y, h => by simpa [dins] using h
  | q :: d, y, h => by
    simp only [dins] at h
    split at h
    · simpa using h
    · simp only [List.mem_cons] at h ⊢
      rcases h with h | h
      · exact .inr (.inl h)
      · rcases mem_dins x d y h with h | h
        · exact .inl h
        · exact .inr (.inr h)
theorem dins_sorted (x : Nat × List UInt8) : ∀ (d : List (Nat × List UInt8)), d.Pairwise (fun p q => p.1 < q.1) → (∀ q ∈ d, q.1 ≠ x.1) → (dins x d).Pairwise (fun p q => p.1 < q.1)
  | [], _, _ => by simp [dins]
  | q :: d, h, hn => by
    simp only [dins]
    rw [List.pairwise_cons] at h
    split
    · rename_i hlt
      refine List.pairwise_cons.2 ⟨fun y hy => ?_, List.pairwise_cons.2 h⟩
      rcases List.mem_cons.1 hy with rfl | hy
      · exact hlt
      · exact Nat.lt_trans hlt (h.1 y hy)
    · rename_i hlt
      have hq := hn q (by simp)
      refine List.pairwise_cons.2 ⟨fun y hy => ?_, dins_sorted x d h.2 (fun y hy => hn y (by simp [hy]))⟩
      rcases mem_dins x d y hy with rfl | hy
      · omega
      · exact h.1 y hy
theorem dput_sorted (d : List (Nat × List UInt8)) (i : Nat) (x : List UInt8) (h : d.Pairwise (fun p q => p.1 < q.1)) : (dput d i x).Pairwise (fun p q => p.1 < q.1) :=
  dins_sorted _ _ (h.sublist List.filter_sublist) (fun q hq => by simpa using (List.mem_filter.1 hq).2)
theorem mem_dput {d : List (Nat × List UInt8)} {i : Nat} {x : List UInt8} {y : Nat × List UInt8} (h : y ∈ dput d i x) : y = (i, x) ∨ y ∈ d := by
  rcases mem_dins _ _ _ h with h | h
  · exact .inl h
  · exact .inr (List.mem_filter.1 h).1

theorem sorted_length {N : Nat} : ∀ (d : List (Nat × List UInt8)) (lo : Nat), d.Pairwise (fun p q => p.1 < q.1) → (∀ q ∈ d, lo ≤ q.1 ∧ q.1 < N) → lo ≤ N → lo + d.length ≤ N
  | [], lo, _, _, h => by simpa using h
  | q :: d, lo, h, hq, hl => by
    rw [List.pairwise_cons] at h
    have h0 := hq q (by simp)
    have := sorted_length d (lo + 1) h.2 (fun y hy => ⟨by have := h.1 y hy; omega, (hq y (by simp [hy])).2⟩) (by omega)
    simp only [List.length_cons]
    omega
theorem DS.Ok.dlen {s : DS} (h : s.Ok) : s.dirty.length ≤ 4096 := by
  have := sorted_length s.dirty 0 h.ds (N := 4096) (fun q hq => ⟨Nat.zero_le _, by have := (h.dz q hq).1; have := h.n2; omega⟩) (by omega)
  omega

def DS.write (s : DS) (i : Int) (b : List UInt8) : DS × Int :=
  if s.at i ≠ 0 then (s, s.at i) else if b.length ≠ s.size then (s, 31) else if s.power.2 = false then (s.power.1, 32) else ({ s.power.1 with dirty := dput s.dirty i.toNat b }, 0)

theorem DS.power_eq (s : DS) : s.power.1.size = s.size ∧ s.power.1.sure = s.sure ∧ s.power.1.dirty = s.dirty := by
  unfold DS.power
  split
  · exact ⟨rfl, rfl, rfl⟩
  · split <;> exact ⟨rfl, rfl, rfl⟩

set_option maxHeartbeats 800000 in
theorem write_any {w : World} {p g m : Nat} {s : DS} (h : DiskAt X w p g m s) (i : Int) {v : Value} {n : Nat} {b : List UInt8} (hv : Rd w 5 1 v n (u8s b)) :
    Calls Tryz.prog 162 #[.pointer (some ⟨p, 0, none⟩), .int .i64 i, v] w fun e w' =>
      e = .returned (.int .i64 (s.write i b).2) ∧ DiskAt X w' p g m (s.write i b).1 ∧ Ext (fun k => k = p ∨ k = m) w w' := by
  have hl : b.length = n := by have := hv.1; simpa [u8s] using this
  have e3 := at_any h i
  have H := Lib.hid e3
  clear e3
  obtain ⟨a, c, rfl⟩ := hv.form
  by_cases he : s.at i = 0
  · by_cases hz : b.length = s.size
    · have hi : 0 ≤ i ∧ i < s.sure.length := by
        unfold DS.at at he
        split at he
        · omega
        · split at he <;> omega
      have hN := h.ok.n2
      have hZ := h.ok.z2
      obtain ⟨j, rfl⟩ := Int.eq_ofNat_of_zero_le hi.1
      obtain ⟨q1, q2, q3⟩ := s.power_eq
      have hkey : keyOf Tryz.prog 3 (.int .i64 (j : Int)) = some (.int .i64 (j : Int)) := Maps.keyOf_int_mk Tryz.underlying3 (WalkArith.wf_i64 (by omega))
      have HP : Calls Tryz.prog 177 #[.pointer (some ⟨p, 0, none⟩)] w fun e w1 => e = .returned (.int .i64 (if s.power.2 then 0 else 32)) ∧ w1.cell? ⟨p, 1, none⟩ = some (.map (some m)) ∧
          Hid (DiskAt X w1 p g m s.power.1) ∧ Hid (Ext (· = p) w w1) ∧ Hid (Rd w1 5 1 (.slice a n c) n (u8s b)) := by
        refine (powered_any h).mono ?_
        rintro e w1 ⟨rfl, hd, hx⟩
        obtain ⟨sv, hb, _⟩ := hd.blk
        have c1 := cell_of_block hb 1
        simp at c1
        obtain ⟨sv', hb', _⟩ := h.blk
        exact ⟨rfl, c1, hd, hx, hv.kept (hx.keepT (by rintro k cur fr hq rfl; rw [hb'] at hq; simp at hq))⟩
      have HH := Lib.hid HP
      clear HP
      have hs := size_any h
      have HS := Lib.hid hs
      clear hs
      rw [he] at H
      have e2 : ((n : Int) != (s.size : Int)) = false := by simp; omega
      cases hpw : s.power.2
      · have e1 : s.write j b = (s.power.1, 32) := by simp [DS.write, he, hz, hpw]
        rw [hpw] at HH
        rw [e1]
        refine Calls.mono (R := fun e w' => e = .returned (.int .i64 32) ∧ Hid (DiskAt X w' p g m s.power.1) ∧ Hid (Ext (· = p) w w')) ?_ (by rintro e w' ⟨rfl, hd, hx⟩; exact ⟨rfl, hd, hx.mono (fun k _ e => .inl e)⟩)
        clear h e1 hv hpw q1 q2 q3 hkey hz hl he
        generalize s.size = z at *
        generalize s.power.1 = s1 at *
        go_enter Tryz.func162, Tryz.ntmps162
        go_wp2_with (first | (go_at_call 176; refine H.out.mono ?_; rintro e w' ⟨rfl, rfl⟩) | (go_at_call 82; refine HS.out.mono ?_; rintro e w' ⟨rfl, rfl⟩) | (go_at_call 177; refine HH.out.mono ?_; rintro e w1 ⟨rfl, c1, hd, hx, hr⟩))
        go_ret
        exact ⟨rfl, hd, hx⟩
      · have e1 : s.write j b = ({ s.power.1 with dirty := dput s.dirty j b }, 0) := by simp [DS.write, he, hz, hpw]
        rw [hpw] at HH
        rw [e1]
        refine Calls.mono (R := fun e w' => e = .returned (.int .i64 0) ∧ Hid (DiskAt X w' p g m { s.power.1 with dirty := dput s.dirty j b }) ∧ Hid (Ext (fun k => k = p ∨ k = m) w w')) ?_ (by rintro e w' ⟨rfl, hd, hx⟩; exact ⟨rfl, hd, hx⟩)
        have hlt := h.lt
        have HC : ∀ w1, Rd w1 5 1 (.slice a n c) n (u8s b) → DiskAt X w1 p g m s.power.1 → Ext (· = p) w w1 → Calls Tryz.prog 133 #[.slice a n c] w1.drew fun e w2 => ∃ v', e = .returned v' ∧ w2.cell? ⟨p, 1, none⟩ = some (.map (some m)) ∧
            ∃ w3, w3.cell? ⟨p, 1, none⟩ = some (.map (some m)) ∧ (Instr.mapUpdate 107 (.map (some m)) (.int .i64 j) v').run Tryz.prog w2 = .ok () w3 ∧ Hid (DiskAt X w3 p g m { s.power.1 with dirty := dput s.dirty j b }) ∧ Hid (Ext (fun k => k = p ∨ k = m) w w3) := by
          intro w1 hr hd hx
          refine (cloneB_any (w := w1.drew) (hr.kept (fun _ _ _ h => h)) (u8s_oneCell b) (by omega)).mono ?_
          rintro e w2 ⟨v', rfl, ho, hb⟩
          have hd2 : DiskAt X w2 p g m s.power.1 := hd.kept_ext (S := fun _ => False) ((Ext.refl _ w1).drew.trans (Ext.of_below hb (Nat.le_refl _))) id id id (Ext.keepT (S := fun _ => False) ((Ext.refl _ w1).drew.trans (Ext.of_below hb (Nat.le_refl _))) (fun _ _ _ _ => id))
          obtain ⟨l, hm, hdr⟩ := hd2.map
          have hll : l.length < maxLen := by
            rw [hdr.length]
            have := hd2.ok.dlen
            simp only [maxLen]
            omega
          obtain ⟨w3, hrun, hm3, ht⟩ := hm.store (Maps.int_keyed Tryz.underlying3) Tryz.underlying107 hll hkey v'
          obtain ⟨sv, hb2, hgg⟩ := hd2.blk
          have c1 := cell_of_block hb2 1
          simp at c1
          have hx3 := mapTurned_ext ht
          have hk3 := mapTurned_keepT ht 5
          obtain ⟨hpg, hpm, hgm⟩ := hd2.ne
          obtain ⟨lp, lg, lm⟩ := hd2.lt
          have b3 : w3.heap[p]? = w2.heap[p]? := hx3.block p lp hpm
          have g3 : w3.heap[g]? = w2.heap[g]? := hx3.block g lg hgm
          have c3 : w3.cell? ⟨p, 1, none⟩ = some (.map (some m)) := by rw [← c1]; simp [World.cell?, b3]
          have hro := (RdX.of_own ho hd.low).kept hk3
          refine ⟨v', rfl, c1, w3, c3, hrun, ?_, ?_⟩
          · obtain ⟨o1, o2, o3, o4, o5, o6, o7, o8, o9⟩ := hd2.ok
            refine ⟨⟨o1, o2, o3, o4, o5, fun y hy => ?_, dput_sorted _ _ _ (by rw [← q3]; exact o7), o8, o9⟩, ?_, ?_, fun k hk => Nat.lt_of_lt_of_le (hd2.low k hk) hx3.size, hd2.off⟩
            · rcases mem_dput hy with rfl | hy
              · exact ⟨by rw [q2]; omega, by rw [q1]; exact hz⟩
              · rw [← q3] at hy; exact o6 y hy
            · obtain ⟨cap, cur, e, hg', h1, h2, h3, h4⟩ := hgg
              exact ⟨sv, b3.trans hb2, cap, cur, e, g3.trans hg', h1, h2, h3, fun i x hx => by obtain ⟨v, hv, hr⟩ := h4 i x hx; exact ⟨v, hv, hr.kept hk3⟩⟩
            · refine ⟨_, hm3, ?_⟩
              have := (hdr.kept hk3).put (i := j) (x := b) (v := v') (by rw [q1, ← hz, hl]; exact hro)
              rwa [q3] at this
          · refine ((hx.mono (S' := fun k => k = p ∨ k = m) (fun k _ e => .inl e)).trans ((Ext.refl _ w1).drew.trans (Ext.of_below hb (Nat.le_refl _)))).trans (hx3.mono (fun k _ e => .inr e))
        have HC' := Lib.hid HC
        clear h e1 hv hpw q1 q2 q3 hkey hz hl he HC
        generalize s.size = z at *
        generalize s.power.1 = s1 at *
        go_enter Tryz.func162, Tryz.ntmps162
        go_wp2_with (first | (go_at_call 176; refine H.out.mono ?_; rintro e w' ⟨rfl, rfl⟩) | (go_at_call 82; refine HS.out.mono ?_; rintro e w' ⟨rfl, rfl⟩) | (go_at_call 177; refine HH.out.mono ?_; rintro e w1 ⟨rfl, c1, hd, hx, hr⟩))
        go_region_held3 (fun w' => w'.cell? ⟨p, 1, none⟩ = some (.map (some m))) (go_keep) ((go_at_call 133; refine (HC'.out _ hr.out hd.out hx.out).mono ?_; rintro e w2 ⟨v', rfl, c2, w3, c3, hrun, hd3, hx3⟩))
        go_wp2
        go_ret
        exact ⟨rfl, hd3, hx3⟩
    · have e1 : s.write i b = (s, 31) := by simp [DS.write, he, hz]
      rw [e1]
      refine Calls.mono (R := fun e w' => e = .returned (.int .i64 31) ∧ w' = w) ?_ (by rintro e w' ⟨rfl, rfl⟩; exact ⟨rfl, h, Ext.refl _ _⟩)
      rw [he] at H
      have hs := size_any h
      have HS := Lib.hid hs
      have e2 : (!((n : Int) == (s.size : Int))) = true := by simp; omega
      clear hs h e1 hv
      generalize s.size = z at *
      go_enter Tryz.func162, Tryz.ntmps162
      go_wp2_with (first | (go_at_call 176; refine H.out.mono ?_; rintro e w' ⟨rfl, rfl⟩) | (go_at_call 82; refine HS.out.mono ?_; rintro e w' ⟨rfl, rfl⟩))
      go_ret
      exact ⟨rfl, rfl⟩
  · have e1 : s.write i b = (s, s.at i) := by simp [DS.write, he]
    rw [e1]
    refine Calls.mono (R := fun e w' => e = .returned (.int .i64 (s.at i)) ∧ w' = w) ?_ (by rintro e w' ⟨rfl, rfl⟩; exact ⟨rfl, h, Ext.refl _ _⟩)
    have e2 : (!(s.at i == 0)) = true := by simpa using he
    clear h e1 hv
    generalize s.at i = x at *
    go_enter Tryz.func162, Tryz.ntmps162
    go_wp2_with (go_at_call 176; refine H.out.mono ?_; rintro e w' ⟨rfl, rfl⟩)
    go_ret
    exact ⟨rfl, rfl⟩
end Go.Proofs.YtekolejeliefdaaGreat
