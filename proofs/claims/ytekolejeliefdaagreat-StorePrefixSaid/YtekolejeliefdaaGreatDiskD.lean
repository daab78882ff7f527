/- The disk: Flush, Crash, Cut. -/
import Derived.Test.YtekolejeliefdaaGreatDiskC
import Derived.Test.YtekolejeliefdaaGreatConcatB
import Derived.WalkSmall
set_option linter.unusedVariables false
set_option linter.unusedSimpArgs false
namespace Go.Proofs.YtekolejeliefdaaGreat
open Go.RowKit
variable {X : Nat → Prop}

/-- One written sector, when the power has gone. -/
def crashF (keep : Nat) (torn : Int) (at_ : Nat) (k : Nat) (sure last : List UInt8) : List UInt8 :=
  if (k : Int) = torn then last.take at_ ++ sure.drop at_ else if keep / 2 ^ (k % 64) % 2 = 1 then last else sure

def DS.settled (s : DS) (f : Nat → List UInt8 → List UInt8 → List UInt8) : DS := { s with sure := stk f s.dirty s.sure s.dirty.length, dirty := [] }
def DS.flush (s : DS) : DS × Int := if s.dead then (s, 32) else if s.power.2 = false then (s.power.1, 32) else (s.power.1.settled (fun _ _ l => l), 0)
def DS.crash (s : DS) (keep : Nat) (torn : Int) (at_ : Int) : DS := { s.settled (crashF keep torn (min (max at_ 0) s.size).toNat) with dead := false, cut := -1 }
def DS.cutAt (s : DS) (n : Int) : DS := { s with cut := max n 0 }

theorem flush1_any (W : World) (k : Nat) (v1 v2 : Value) (z : Nat) (x y : List UInt8) (h2 : RdX X W 5 1 v2 z (u8s y)) :
    Calls Tryz.prog 179 (#[.int .i64 k, v1, v2] ++ #[]) W fun e W' => ∃ v, e = .returned v ∧ RdX X W' 5 1 v z (u8s y) ∧ Ext (fun _ => False) W W' := by
  refine Calls.mono (R := fun e W' => e = .returned v2 ∧ W' = W) ?_ (by rintro e W' ⟨rfl, rfl⟩; exact ⟨_, rfl, h2, Ext.refl _ _⟩)
  simp only [Array.append_empty]
  go_enter Tryz.func179, Tryz.ntmps179
  go_wp2
  go_ret
  exact ⟨rfl, rfl⟩

set_option maxHeartbeats 1000000 in
theorem flush_any {w : World} {p g m : Nat} {s : DS} (h : DiskAt X w p g m s) : Calls Tryz.prog 161 #[.pointer (some ⟨p, 0, none⟩)] w fun e w' =>
    e = .returned (.int .i64 s.flush.2) ∧ DiskAt X w' p g m s.flush.1 ∧ Ext (fun k => k = p ∨ k = g ∨ k = m) w w' := by
  obtain ⟨sv, hb, _⟩ := h.blk
  have c3 := cell_of_block hb 3
  simp at c3
  clear hb
  cases hdd : s.dead
  · rw [hdd] at c3
    have HP : Calls Tryz.prog 177 #[.pointer (some ⟨p, 0, none⟩)] w fun e w1 => e = .returned (.int .i64 (if s.power.2 then 0 else 32)) ∧ Hid (DiskAt X w1 p g m s.power.1 ∧ Ext (· = p) w w1) := by
      refine (powered_any h).mono ?_
      rintro e w1 ⟨rfl, hd, hx⟩
      exact ⟨rfl, hd, hx⟩
    have HH := Lib.hid HP
    clear HP
    cases hpw : s.power.2
    · have e1 : s.flush = (s.power.1, 32) := by simp [DS.flush, hdd, hpw]
      rw [e1]
      rw [hpw] at HH
      refine Calls.mono (R := fun e w' => e = .returned (.int .i64 32) ∧ Hid (DiskAt X w' p g m s.power.1 ∧ Ext (· = p) w w')) ?_ (by rintro e w' ⟨rfl, hd, hx⟩; exact ⟨rfl, hd, hx.mono (fun k _ e => .inl e)⟩)
      clear h e1 hpw hdd
      generalize s.power.1 = s1 at *
      go_enter Tryz.func161, Tryz.ntmps161
      go_wp2_with (go_at_call 177; refine HH.out.mono ?_; rintro e w1 ⟨rfl, hd⟩)
      go_ret
      exact ⟨rfl, hd⟩
    · have e1 : s.flush = (s.power.1.settled (fun _ _ l => l), 0) := by simp [DS.flush, hdd, hpw]
      rw [e1]
      rw [hpw] at HH
      refine Calls.mono (R := fun e w' => e = .returned (.int .i64 0) ∧ Hid (DiskAt X w' p g m (s.power.1.settled (fun _ _ l => l)) ∧ Ext (fun k => k = p ∨ k = g ∨ k = m) w w')) ?_ (by rintro e w' ⟨rfl, hd, hx⟩; exact ⟨rfl, hd, hx⟩)
      have HS : ∀ w1, Hid (DiskAt X w1 p g m s.power.1 ∧ Ext (· = p) w w1) → Calls Tryz.prog 178 #[.pointer (some ⟨p, 0, none⟩), .func (.func 179) #[] #[]] w1 fun e w' => e = .returned (.tuple #[]) ∧
          Hid (DiskAt X w' p g m (s.power.1.settled (fun _ _ l => l)) ∧ Ext (fun k => k = p ∨ k = g ∨ k = m) w w') := by
        intro w1 hw1
        obtain ⟨hd, hx⟩ := hw1.out
        refine (settle_any hd 179 #[] (fun _ _ l => l) (fun _ => True) (fun _ _ _ _ => trivial) trivial (enters_of Tryz.func179 (by kernel_rfl) rfl)
          (fun W k v1 v2 x y _ _ _ h2 => flush1_any W k v1 v2 _ x y h2)).mono ?_
        rintro e w' ⟨rfl, hd', hx'⟩
        exact ⟨rfl, hd', (hx.mono (fun k _ e => .inl e)).trans (hx'.mono (fun k _ e => .inr e))⟩
      have HS' := Lib.hid HS
      clear h e1 hpw hdd HS
      generalize s.power.1 = s1 at *
      go_enter Tryz.func161, Tryz.ntmps161
      go_wp2_with (first | (go_at_call 177; refine HH.out.mono ?_; rintro e w1 ⟨rfl, hd⟩) | (go_at_call 178; refine (HS'.out _ hd).mono ?_; rintro e w2 ⟨rfl, hd2⟩))
      go_ret
      exact ⟨rfl, hd2⟩
  · have e1 : s.flush = (s, 32) := by simp [DS.flush, hdd]
    rw [e1]
    rw [hdd] at c3
    refine Calls.mono (R := fun e w' => e = .returned (.int .i64 32) ∧ w' = w) ?_ (by rintro e w' ⟨rfl, rfl⟩; exact ⟨rfl, h, Ext.refl _ _⟩)
    clear h e1 hdd
    go_enter Tryz.func161, Tryz.ntmps161
    go_wp2
    go_ret
    exact ⟨rfl, rfl⟩

theorem DiskAt.revived {w : World} {p g m : Nat} {s : DS} (h : DiskAt X w p g m s) : DiskAt X ((w.setCell ⟨p, 3, none⟩ (.bool false)).setCell ⟨p, 2, none⟩ (.int .i64 (-1))) p g m { s with dead := false, cut := -1 } := by
  have h1 := h.put (i := 3) (u := .bool false) (c := s.cut) (d := false) h.ok.c1 h.ok.c2 (fun sv => rfl)
  exact h1.put (i := 2) (u := .int .i64 (-1)) (c := -1) (d := false) (by omega) (by omega) (fun sv => rfl)

end Go.Proofs.YtekolejeliefdaaGreat
