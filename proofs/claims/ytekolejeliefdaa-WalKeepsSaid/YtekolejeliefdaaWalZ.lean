/- The law WalKeeps: its parts. -/
import Derived.Test.YtekolejeliefdaaWalX
set_option linter.unusedVariables false
set_option linter.unusedSimpArgs false
namespace Go.Proofs.Ytekolejeliefdaa
open Go.RowKit

/-- Acts that are read, wherever they lie: what is done, lengths of records. -/
def ActsIn (w : World) (v : Value) (n : Nat) : Prop :=
  n ≤ maxLen ∧ ∃ a c, v = .slice a n c ∧ (n = 0 ∨ ∃ x, a = some x ∧ x.block < w.heap.size ∧ ∀ i, i < n → ∃ (what : Int) (al : Option Addr) (nl cl : Nat) (L : List UInt8), w.cell? (x.add (i * 2)) = some (.int .i64 what) ∧ w.cell? ⟨(x.add (i * 2)).block, (x.add (i * 2)).off + 1, none⟩ = some (.slice al nl cl) ∧ BytesIn w (.slice al nl cl) nl L)
theorem ActsIn.below {w w' : World} {v : Value} {n : Nat} (h : ActsIn w v n) (hb : Below w.heap.size w w') : ActsIn w' v n := by
  obtain ⟨h2, a, c, rfl, h3⟩ := h
  refine ⟨h2, a, c, rfl, ?_⟩
  rcases h3 with h3 | ⟨x, rfl, hx, h3⟩
  · exact .inl h3
  · refine .inr ⟨x, rfl, Nat.lt_of_lt_of_le hx hb.size, fun i hi => ?_⟩
    obtain ⟨what, al, nl, cl, L, h4, h5, h6⟩ := h3 i hi
    refine ⟨what, al, nl, cl, L, ?_, ?_, h6.below hb⟩
    · rw [hb.cell (p := x.add (i * 2)) (by rw [add_block]; exact hx)]
      exact h4
    · rw [hb.cell (p := ⟨(x.add (i * 2)).block, (x.add (i * 2)).off + 1, none⟩) (by show (x.add (i * 2)).block < _; rw [add_block]; exact hx)]
      exact h5
theorem ActsIn.form {w : World} {v : Value} {n : Nat} (h : ActsIn w v n) : ∃ a c, v = .slice a n c := by
  obtain ⟨_, a, c, h, _⟩ := h
  exact ⟨a, c, h⟩
theorem ActsIn.at_ {w : World} {a : Option Addr} {n c : Nat} (h : ActsIn w (.slice a n c) n) {i : Nat} (hi : i < n) : ∃ x what al nl cl L, a = some x ∧ x.block < w.heap.size ∧ w.cell? (x.add (i * 2)) = some (.int .i64 what) ∧ w.cell? ⟨(x.add (i * 2)).block, (x.add (i * 2)).off + 1, none⟩ = some (.slice al nl cl) ∧ BytesIn w (.slice al nl cl) nl L := by
  obtain ⟨h2, a', c', e, h3⟩ := h
  simp only [Value.slice.injEq, true_and] at e
  obtain ⟨rfl, rfl⟩ := e
  obtain ⟨x, rfl, hx, h4⟩ := h3.resolve_left (by omega)
  obtain ⟨what, al, nl, cl, L, h5, h6, h7⟩ := h4 i hi
  exact ⟨x, what, al, nl, cl, L, rfl, hx, h5, h6, h7⟩
/-- Is no act too great? -/
def lightF (w : World) (a : Option Addr) (n : Nat) : Prop := ∀ x, a = some x → ∀ i, i < n → ∀ al nl cl, w.cell? ⟨(x.add (i * 2)).block, (x.add (i * 2)).off + 1, none⟩ = some (.slice al nl cl) → nl ≤ 6
def LightPost (w : World) (a : Option Addr) (n : Nat) (e : Ending) (w' : World) : Prop := ∃ b, e = .returned (.bool b) ∧ (b = true → n ≤ 30 ∧ lightF w a n) ∧ w = w'
set_option maxRecDepth 100000 in
set_option maxHeartbeats 2000000 in
theorem light_any {w : World} {a : Option Addr} {n c : Nat} (h : ActsIn w (.slice a n c) n) : Calls Try.prog 34 #[.slice a n c] w fun e w' => LightPost w a n e w' := by
  have hm := h.1
  unfold maxLen at hm
  by_cases h30 : 30 < n
  · have h1 : (30 : Int) < (n : Int) := by omega
    clear h
    go_enter Try.func34, Try.ntmps34
    go_wp2
    go_ret
    exact ⟨false, rfl, fun h => (by cases h), rfl⟩
  · have h1 : (n : Int) ≤ 30 := by omega
    have H := Lib.hid h
    clear h
    go_enter Try.func34, Try.ntmps34
    go_wp2_with fail
    go_loop [3] (fun iv => ∃ k : Nat, k ≤ n ∧ iv = .int .i64 k ∧ Hid (lightF w a k)) (fun iv => n - (intOf iv).toNat)
    case atStart => exact ⟨0, Nat.zero_le _, rfl, fun x _ i hi => by omega⟩
    case round =>
      obtain ⟨k, hk, rfl, hin⟩ := hrel
      by_cases hlt : k < n
      · obtain ⟨x, what, al, nl, cl, L, rfl, hx, h2, h3, h4⟩ := H.out.at_ hlt
        have hnl := h4.2.1
        unfold maxLen at hnl
        clear h4
        by_cases h6 : 6 < nl
        · have h6' : (6 : Int) < (nl : Int) := by omega
          go_wp2_with fail
          go_ret
          exact ⟨false, rfl, fun h => (by cases h), rfl⟩
        · have h6' : (nl : Int) ≤ 6 := by omega
          have HN : Hid (lightF w (some x) (k + 1)) := by
            intro y hy i hi al' nl' cl' hc
            cases hy
            rcases Nat.lt_or_ge i k with h7 | h7
            · exact hin.out x rfl i h7 al' nl' cl' hc
            · obtain rfl : i = k := by omega
              rw [h3] at hc
              simp at hc
              omega
          clear hin
          go_wp2_with fail
          go_round
          case rel => exact ⟨k + 1, by omega, by go_num, HN⟩
          case measure => simp [intOf]; omega
      · obtain rfl : k = n := by omega
        go_wp2_with fail
        go_ret
        exact ⟨true, rfl, fun _ => ⟨by omega, hin.out⟩, rfl⟩
/-- Two rows behind each other, as 'append(append(nil, x...), y...)' makes them. -/
theorem append_two {w : World} {g : Nat} {ax ay : Option Addr} {na nb cx cy : Nat} {X Y : List (List UInt8)} (hg : g + 1 ≤ w.heap.size) (hx : Recs w g (.slice ax na cx) X) (hy : Recs w g (.slice ay nb cy) Y) (hna : X.length = na) (hnb : Y.length = nb) :
    ∃ csx csy, Hid (Rd w 33 1 (.slice ax na cx) na csx ∧ (∀ u ∈ csx, u.oneCell' = true) ∧ (∀ u ∈ csy, u.oneCell' = true) ∧ w.ownsRow (g + 1) 33 1 (.slice none 0 0) 0 [] ∧ g + 1 ≤ w.heap.size ∧
      ∀ v14 w14, w14.ownsRow (g + 1) 33 1 v14 (0 + na) ([] ++ csx) → w.grownBy w14 (Value.slice none 0 0).ownBlock → (v14.ownBlock = (Value.slice none 0 0).ownBlock ∨ v14.ownBlock = some w.heap.size) →
          (∃ a14 c14, v14 = .slice a14 na c14 ∧ Hid (w14.ownsRow (g + 1) 33 1 (.slice a14 na c14) na csx ∧ Rd w14 33 1 (.slice ay nb cy) nb csy ∧ g + 1 ≤ w14.heap.size ∧
            ∀ v15 w15, w15.ownsRow (g + 1) 33 1 v15 (na + nb) (csx ++ csy) → w14.grownBy w15 (Value.slice a14 na c14).ownBlock → (v15.ownBlock = (Value.slice a14 na c14).ownBlock ∨ v15.ownBlock = some w14.heap.size) →
              ∃ a15 c15, v15 = .slice a15 (na + nb) c15 ∧ Hid (Recs w15 g (.slice a15 (na + nb) c15) (X ++ Y) ∧ Ext (fun _ => False) w w15)))) := by
  obtain ⟨csx, hrx, hrax, hox⟩ := two_app hx
  obtain ⟨csy, hry, hray, hoy⟩ := two_app hy
  rw [hna] at hrx
  rw [hnb] at hry
  refine ⟨csx, csy, hrx, hox, hoy, ⟨rfl, .inl ⟨rfl, rfl⟩⟩, hg, ?_⟩
  intro v14 w14 o1 o2 o3
  simp only [Nat.zero_add, List.nil_append] at o1
  obtain ⟨a14, c14, rfl⟩ := (Rd.of_own o1).form
  have hxx : Ext (fun _ => False) w w14 := Ext.of_grown o2 (fun k h => by simp [Value.ownBlock] at h)
  have hk := hxx.keepT (e := 33) (fun _ _ _ _ => id)
  have hk5 := hxx.keepT (e := 5) (fun _ _ _ _ => id)
  refine ⟨a14, c14, rfl, o1, hry.kept hk, Nat.le_trans hg hxx.size, ?_⟩
  intro v15 w15 q1 q2 q3
  obtain ⟨a15, c15, rfl⟩ := (Rd.of_own q1).form
  have hk6 := grown_keepT (e' := 5) o1 q2 (by decide)
  refine ⟨a15, c15, rfl, ⟨csx ++ csy, ?_, ((hrax.kept hk5).kept hk6).app ((hray.kept hk5).kept hk6)⟩, hxx.andThen (Ext.of_grown (S := fun k => (Value.slice a14 na c14).ownBlock = some k) q2 (fun k h => h)) (fun i hi hs => ?_)⟩
  · rw [List.length_append, hna, hnb]
    exact q1
  · rcases o3 with o3 | o3
    · rw [o3] at hs
      simp [Value.ownBlock] at hs
    · rw [o3] at hs
      simp at hs
      omega
end Go.Proofs.Ytekolejeliefdaa
