/- slices.Grow and slices.Concat at this program's instances. -/
import Derived.Test.YtekolejeliefdaaLayS
import Derived.Test.YtekolejeliefdaaBase
import Derived.Deep.LoopGhost
set_option linter.unusedVariables false
set_option linter.unusedSimpArgs false
namespace Go.Proofs.Ytekolejeliefdaa
open Go.RowKit

/-- The lengths and the cells of parts, one behind another. -/
def plen (l : List (Value × Nat × List Value)) : Nat := (l.map (·.2.1)).sum
def pcells (l : List (Value × Nat × List Value)) : List Value := l.flatMap (·.2.2)
theorem plen_take {l : List (Value × Nat × List Value)} {j : Nat} {p : Value × Nat × List Value} (h : l[j]? = some p) : plen (l.take (j + 1)) = plen (l.take j) + p.2.1 := by
  rw [List.take_add_one, h]
  simp [plen]
theorem pcells_take {l : List (Value × Nat × List Value)} {j : Nat} {p : Value × Nat × List Value} (h : l[j]? = some p) : pcells (l.take (j + 1)) = pcells (l.take j) ++ p.2.2 := by
  rw [List.take_add_one, h]
  simp [pcells]
theorem plen_le (l : List (Value × Nat × List Value)) (j : Nat) : plen (l.take j) ≤ plen l := by
  have : plen l = plen (l.take j) + plen (l.drop j) := by
    unfold plen
    rw [← List.sum_append, ← List.map_append, List.take_append_drop]
  omega

theorem grow_any_B (n : Nat) (w : World) (hn : n ≤ 1073741824) : Calls Try.prog 102 #[.slice none 0 0, .int .i64 n] w fun e w' => ∃ v, e = .returned v ∧ w'.ownsRow w.heap.size 5 1 v 0 [] ∧ Below w.heap.size w w' := by
  rcases Nat.eq_zero_or_pos n with rfl | h0
  · refine (Any8.slices_Grow_room growB none 0 0 0 w (Nat.le_refl _) (by omega) (by omega) (by omega)).mono ?_
    rintro e w' ⟨rfl, rfl⟩
    exact ⟨_, rfl, World.ownsRow_nil _ _ _ _, Below.refl _ _⟩
  · obtain ⟨i0, hi, hzz⟩ := Option.map_eq_some_iff.1 (show (Try.prog.info? 5).map (fun i => (i.zero, i.size, i.bytes)) = some (some (.int .u8 0), 1, 1) by kernel_rfl)
    simp only [Prod.mk.injEq] at hzz
    obtain ⟨hz0, hz1, hz2⟩ := hzz
    refine (Any8.slices_Grow_grow growB i0 (.int .u8 0) hi hz0 (by omega) none 0 0 n [] w (Nat.le_refl _) (by omega) (by rw [hz2]; omega) (by omega) (by simp) (fun _ => rfl) (fun a h => by cases h)).mono ?_
    rintro e w' ⟨rfl, rfl⟩
    have hge := grownCap_ge w (0 + n) 0 (growB_ren.t 25)
    have hle := grownCap_le_maxLen w (0 + n) 0 (growB_ren.t 25) (by simp only [maxLen]; omega)
    generalize grownCap w (0 + n) 0 (growB_ren.t 25) = G at *
    refine ⟨_, rfl, World.ownsRow_made (base := w.heap.size) (e := 5) (size := 1) w.drew _ G (Nat.le_refl _) hle ?_, ((Below.refl _ w).drew).alloc (Nat.le_refl _) _⟩
    simp [size_zeroCells, Value.cells]
    omega

set_option maxHeartbeats 1000000 in
theorem concat_any_B (v : Value) (l : List (Value × Nat × List Value)) (w : World) (hv : Rd w 33 1 v l.length (l.map (·.1))) (hl : ∀ p ∈ l, Rd w 5 1 p.1 p.2.1 p.2.2 ∧ ∀ u ∈ p.2.2, u.oneCell' = true) (hn : plen l ≤ 1073741824) (hm : l.length ≤ 1073741824) :
    Calls Try.prog 74 #[v] w fun e w' => ∃ v', e = .returned v' ∧ w'.ownsRow w.heap.size 5 1 v' (plen l) (pcells l) ∧ Below w.heap.size w w' := by
  have HL := Lib.hid hl
  have HV := Lib.hid hv
  have hcell : ∀ j, j < l.length → ∃ b off c p, v = .slice (some ⟨b, off, none⟩) l.length c ∧ b < w.heap.size ∧ l[j]? = some p ∧ w.cell? ⟨b, off + j, none⟩ = some p.1 := by
    intro j hj
    obtain ⟨b, off, c, e, hb, hc⟩ := hv.cell (by omega)
    have hq := List.getElem?_eq_getElem hj
    refine ⟨b, off, c, _, e, hb, hq, ?_⟩
    rw [hc j (by omega), List.getElem?_map, hq]
    rfl
  have HC := Lib.hid hcell
  obtain ⟨a, c, rfl⟩ := hv.form
  have hg := grow_any_B (plen l) w hn
  have HG := Lib.hid hg
  clear hl hv hcell hg
  go_enter Try.func74, Try.ntmps74
  go_wp2
  go_loop [3, 11] (fun t i => ∃ j : Nat, j ≤ l.length ∧ i = .int .i64 j ∧ t = .int .i64 (plen (l.take j))) (fun _ i => l.length - (intOf i).toNat)
  case atStart => exact ⟨0, Nat.zero_le _, rfl, rfl⟩
  case round =>
    obtain ⟨j, hj, rfl, rfl⟩ := hrel
    have hpl := plen_le l j
    by_cases hlt : j < l.length
    · obtain ⟨b, off, c', p, e1, hb, hp, hc⟩ := HC.out j hlt
      simp only [Value.slice.injEq, true_and] at e1
      obtain ⟨rfl, rfl⟩ := e1
      have ht := plen_take hp
      have hpl' := plen_le l (j + 1)
      obtain ⟨a', c'', hpf⟩ := (HL.out p (List.mem_of_getElem? hp)).1.form
      obtain ⟨p1, p2, p3⟩ := p
      simp only at *
      subst hpf
      have HT := Lib.hid ht
      have hb2 : plen (l.take j) + p2 ≤ 1073741824 := by omega
      clear ht hp
      go_wp2
      go_round
      case rel => exact ⟨j + 1, by omega, by go_num, by rw [HT.out]; go_num⟩
      case measure => simp [intOf]; omega
    · obtain rfl : j = l.length := by omega
      rw [List.take_length]
      go_wp2_with (go_at_call 102; refine HG.out.mono ?_; rintro e w1 ⟨v', rfl, ho, hb⟩)
      go_loopw [6, 27] (fun t i wr => ∃ j : Nat, j ≤ l.length ∧ i = .int .i64 j ∧ Hid (wr.ownsRow w.heap.size 5 1 t (plen (l.take j)) (pcells (l.take j)) ∧ Below w.heap.size w wr)) (fun _ i _ => l.length - (intOf i).toNat)
      case atStart => exact ⟨0, Nat.zero_le _, rfl, by simpa [plen, pcells] using ho, hb⟩
      case round =>
        obtain ⟨j, hj, rfl, hin⟩ := hrel
        by_cases hlt : j < l.length
        · obtain ⟨b, off, c', p, e1, hbl, hp, hc⟩ := HC.out j hlt
          simp only [Value.slice.injEq, true_and] at e1
          obtain ⟨rfl, rfl⟩ := e1
          have ht := plen_take hp
          have hpc := pcells_take hp
          have hpl' := plen_le l (j + 1)
          obtain ⟨hr, hone⟩ := HL.out p (List.mem_of_getElem? hp)
          obtain ⟨ho, hb⟩ := hin.out
          have hsz := hb.size
          have hcr : wr.cell? ⟨b, off + j, none⟩ = some p.1 := by rw [hb.cell (p := ⟨b, off + j, none⟩) hbl]; exact hc
          have hr' : Rd wr 5 1 p.1 p.2.1 p.2.2 := hr.kept (fun b' cur fr hq => (hb.block b' (lt_of_heap hq)).trans hq)
          obtain ⟨p1, p2, p3⟩ := p
          simp only at *
          have hnext : ∀ v' w2, w2.ownsRow w.heap.size 5 1 v' (plen (l.take j) + p2) (pcells (l.take j) ++ p3) → wr.grownBy w2 u6.ownBlock → (w2.ownsRow w.heap.size 5 1 v' (plen (l.take (j + 1))) (pcells (l.take (j + 1))) ∧ Below w.heap.size w w2) := by
            intro v' w2 h1 h2
            rw [ht, hpc]
            exact ⟨h1, hb.grown h2 hsz (fun k hk => (ho.lt k hk).1)⟩
          have HN := Lib.hid hnext
          have HR := Lib.hid hr'
          have HO := Lib.hid ho
          have HONE := Lib.hid hone
          have hb2 : plen (l.take j) + p2 ≤ 1073741824 := by omega
          clear ht hp hpc hnext hr hr' ho hone hb hin
          go_wp2_with (at_builtin; refine wpList_app rfl _ _ 33 rfl w.heap.size 5 1 1 (.int .u8 0) Try.underlying33 (by kernel_rfl) rfl (by omega) _ _ _ rfl HO.out _ _ _ 5 rfl HR.out HONE.out (by simp only [maxLen]; omega) (by omega) hsz ?_; intro v1 w2 q1 q2 _)
          have hin1 := HN.out v1 w2 q1 q2
          have HIN := Lib.hid hin1
          clear hin1 q1 q2
          go_wp2
          go_roundw
          case rel => exact ⟨j + 1, by omega, by go_num, HIN⟩
          case measure => simp [intOf]; omega
        · obtain rfl : j = l.length := by omega
          rw [List.take_length] at hin
          go_wp2
          go_ret
          exact ⟨_, rfl, hin.out⟩
end Go.Proofs.Ytekolejeliefdaa
