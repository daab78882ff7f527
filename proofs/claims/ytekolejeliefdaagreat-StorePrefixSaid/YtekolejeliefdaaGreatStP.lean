/- The store's statements: texts held against one another; does a store tell just a map's keys and values? -/
import Derived.Test.YtekolejeliefdaaGreatStO
set_option linter.unusedVariables false
set_option linter.unusedSimpArgs false
namespace Go.Proofs.YtekolejeliefdaaGreat
open Go.RowKit

theorem take_eq_snoc {α : Type} {xs ys : List α} {k : Nat} {x : α} (h : xs.take k = ys.take k) (hx : xs[k]? = some x) (hy : ys[k]? = some x) : xs.take (k + 1) = ys.take (k + 1) := by
  rw [List.take_add_one, List.take_add_one, h, hx, hy]
theorem Rd.text_at {w : World} {a : Option Addr} {n c : Nat} {xs : List (List UInt8)} (h : Rd w 9 1 (.slice a n c) n (xs.map bstr)) {k : Nat} (hk : k < n) :
    ∃ b off x, a = some ⟨b, off, none⟩ ∧ xs[k]? = some x ∧ b < w.heap.size ∧ w.cell? ⟨b, off + k, none⟩ = some (.string ⟨x.toArray⟩) := by
  have hl := h.1
  simp only [List.length_map, Nat.mul_one] at hl
  obtain ⟨b, off, c', e1, hb, hc⟩ := h.cell (by omega)
  simp only [Value.slice.injEq, true_and] at e1
  obtain ⟨rfl, rfl⟩ := e1
  obtain ⟨x, hx⟩ : ∃ x, xs[k]? = some x := ⟨_, List.getElem?_eq_getElem (by omega)⟩
  have d := hc k (by omega)
  rw [List.getElem?_map, hx] at d
  exact ⟨b, off, x, rfl, hx, hb, d⟩

set_option maxRecDepth 100000 in
set_option maxHeartbeats 2000000 in
theorem strings_any {w : World} {v v' : Value} {n n' : Nat} {xs ys : List (List UInt8)} (hv : Rd w 9 1 v n (xs.map bstr)) (hv' : Rd w 9 1 v' n' (ys.map bstr)) :
    Calls Tryz.prog 12 #[v, v'] w fun e w' => e = .returned (.bool (decide (xs = ys))) ∧ ∃ m, w' = w.drewN m := by
  have hn : xs.length = n := by have h1 := hv.1; simp at h1; omega
  have hn' : ys.length = n' := by have h1 := hv'.1; simp at h1; omega
  obtain ⟨va, vc, rfl⟩ := hv.form
  obtain ⟨va', vc', rfl⟩ := hv'.form
  by_cases hnn : n = n'
  · subst hnn
    have hm := hv.2.1
    unfold maxLen at hm
    have H := Lib.hid (And.intro hv (And.intro hv' (And.intro hn hn')))
    clear hv hv' hn hn'
    go_enter Tryz.func12, Tryz.ntmps12
    go_wp2_with fail
    go_loopw [5] (fun iv wr => ∃ k : Nat, k ≤ n ∧ iv = .int .i64 k ∧ Hid (xs.take k = ys.take k ∧ ∃ m, wr = w.drewN m)) (fun iv _ => n - (intOf iv).toNat)
    case atStart => exact ⟨0, Nat.zero_le _, rfl, by simp, 0, rfl⟩
    case round =>
      obtain ⟨k, hk, rfl, hin⟩ := hrel
      obtain ⟨htk, m, rfl⟩ := hin.out
      by_cases hlt : k < n
      · obtain ⟨b, off, X, rfl, hX, _, d⟩ := H.out.1.text_at hlt
        obtain ⟨b', off', Y, rfl, hY, _, d'⟩ := H.out.2.1.text_at hlt
        have HT := Lib.hid (And.intro htk (And.intro hX hY))
        clear hin htk hX hY
        by_cases hXY : X = Y
        · subst hXY
          go_wp2_with fail
          go_quiet (fail)
          go_wp2_with fail
          go_roundw
          case rel =>
            exact ⟨k + 1, by omega, by go_num, take_eq_snoc HT.out.1 HT.out.2.1 HT.out.2.2, _, rfl⟩
          case measure => simp [intOf]; omega
        · have hXY' : (!X == Y) = true := by simpa using hXY
          have HNE : Hid (xs ≠ ys) := by
            rintro rfl
            have h1 := HT.out.2.1
            rw [HT.out.2.2] at h1
            exact hXY (Option.some.inj h1).symm
          go_wp2_with fail
          go_quiet (fail)
          go_wp2_with fail
          go_ret
          exact ⟨by rw [decide_eq_false HNE.out]; rfl, _, World.drewN_drewN ..⟩
      · obtain rfl : k = n := by omega
        have HT := Lib.hid htk
        clear hin htk
        go_wp2_with fail
        go_ret
        obtain ⟨hv, hv', hn, hn'⟩ := H.out
        have h1 := HT.out
        rw [List.take_of_length_le (by omega), List.take_of_length_le (by omega)] at h1
        exact ⟨by rw [decide_eq_true h1]; rfl, m, rfl⟩
  · have HNE : Hid (xs ≠ ys) := by rintro rfl; omega
    have hnn' : ((n : Int) != (n' : Int)) = true := by simp; omega
    clear hv hv' hn hn'
    go_enter Tryz.func12, Tryz.ntmps12
    go_wp2_with fail
    go_ret
    exact ⟨by rw [decide_eq_false HNE.out]; rfl, 0, rfl⟩
end Go.Proofs.YtekolejeliefdaaGreat
