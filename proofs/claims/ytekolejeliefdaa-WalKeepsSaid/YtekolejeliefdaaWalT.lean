/- The log's statements: what they make and compare. -/
import Derived.Test.YtekolejeliefdaaWalS
set_option linter.unusedVariables false
set_option linter.unusedSimpArgs false
namespace Go.Proofs.Ytekolejeliefdaa
open Go.RowKit

section
variable {w : World}
theorem Rd.str {v : Value} {n : Nat} {xs : List UInt8} (h : Rd w 5 1 v n (u8s xs)) : (Go.convert 33 9 v).run Try.prog w = .ok (.string ⟨xs.toArray⟩) w := by
  by_cases h0 : 0 < n
  · exact h.str' h0
  · obtain rfl : n = 0 := by omega
    have hl : xs.length = 0 := by have := h.1; simpa [u8s] using this
    obtain rfl := List.eq_nil_of_length_eq_zero hl
    obtain ⟨h1, h2, c, ⟨rfl, _⟩ | ⟨b, off, rfl, hc, _⟩⟩ := h
    · have hk : ∀ W : World, (Go.convert 33 9 (.slice none 0 0)).run Try.prog W = .ok (.string ⟨#[]⟩) W := fun _ => by kernel_rfl
      exact hk w
    · have := Lib.run_convert_whole (P := Try.prog) w 33 5 9 Try.underlying33 Try.underlying5 Try.underlying9 b off ⟨#[]⟩ (fun i hi => absurd hi (by simp [ByteArray.size])) c
      exact this
theorem str_eq (xs ys : List UInt8) : ((⟨xs.toArray⟩ : ByteArray) = ⟨ys.toArray⟩) ↔ xs = ys := by
  constructor
  · intro h
    have := congrArg (fun b : ByteArray => b.data.toList) h
    simpa using this
  · rintro rfl
    rfl
set_option maxRecDepth 100000 in
set_option maxHeartbeats 2000000 in
theorem same_any {v v' : Value} {n n' : Nat} {cs cs' : List Value} {rs rs' : List (List UInt8)} (hv : Rd w 33 1 v n cs) (hr : RecsAt w cs rs) (hv' : Rd w 33 1 v' n' cs') (hr' : RecsAt w cs' rs') :
    Calls Try.prog 33 #[v, v'] w fun e w' => e = .returned (.bool (decide (rs = rs'))) ∧ ∃ m, w' = w.drewN m := by
  have hn : rs.length = n := by have h1 := hr.1; have h2 := hv.1; omega
  have hn' : rs'.length = n' := by have h1 := hr'.1; have h2 := hv'.1; omega
  obtain ⟨va, vc, rfl⟩ := hv.form
  obtain ⟨va', vc', rfl⟩ := hv'.form
  by_cases hnn : n = n'
  · subst hnn
    have hm := hv.2.1
    unfold maxLen at hm
    have H := Lib.hid (And.intro hv (And.intro hr (And.intro hv' (And.intro hr' (And.intro hn hn')))))
    clear hv hr hv' hr' hn hn'
    go_enter Try.func33, Try.ntmps33
    go_wp2_with fail
    go_loopw [5] (fun iv wr => ∃ k : Nat, k ≤ n ∧ iv = .int .i64 k ∧ Hid (rs.take k = rs'.take k ∧ ∃ m, wr = w.drewN m)) (fun iv _ => n - (intOf iv).toNat)
    case atStart => exact ⟨0, Nat.zero_le _, rfl, by simp, 0, rfl⟩
    case round =>
      obtain ⟨k, hk, rfl, hin⟩ := hrel
      obtain ⟨htk, m, rfl⟩ := hin.out
      by_cases hlt : k < n
      · obtain ⟨hv, hr, hv', hr', hn, hn'⟩ := H.out
        obtain ⟨b, off, c, e1, _, hc⟩ := hv.cell (by omega)
        obtain ⟨b', off', c', e1', _, hc'⟩ := hv'.cell (by omega)
        simp only [Value.slice.injEq, true_and] at e1 e1'
        obtain ⟨rfl, rfl⟩ := e1
        obtain ⟨rfl, rfl⟩ := e1'
        have hcl : k < cs.length := by rw [hr.1]; omega
        have hcl' : k < cs'.length := by rw [hr'.1]; omega
        have d := hc k (by omega)
        have d' := hc' k (by omega)
        rw [List.getElem?_eq_getElem hcl] at d
        rw [List.getElem?_eq_getElem hcl'] at d'
        obtain ⟨X, hX⟩ : ∃ X, rs[k]? = some X := ⟨_, List.getElem?_eq_getElem (by omega)⟩
        obtain ⟨Y, hY⟩ : ∃ Y, rs'[k]? = some Y := ⟨_, List.getElem?_eq_getElem (by omega)⟩
        have q := hr.2 k _ _ (List.getElem?_eq_getElem hcl) hX
        have q' := hr'.2 k _ _ (List.getElem?_eq_getElem hcl') hY
        obtain ⟨xa, xc, hx⟩ := q.form
        obtain ⟨ya, yc, hy⟩ := q'.form
        rw [hx] at d q
        rw [hy] at d' q'
        have s1 := fun a => (q.kept (w1 := w.drewN a) (fun _ _ _ h => h)).str
        have s2 := fun a => (q'.kept (w1 := w.drewN a) (fun _ _ _ h => h)).str
        have HT := Lib.hid (And.intro htk (And.intro hX hY))
        clear hin htk hc hc' q q' hx hy hX hY hv hr hv' hr' hn hn' hcl hcl'
        by_cases hXY : X = Y
        · subst hXY
          go_wp2_with fail
          go_quiet (fail)
          go_wp2_with fail
          go_roundw
          case rel =>
            refine ⟨k + 1, by omega, by go_num, ?_, _, rfl⟩
            obtain ⟨h1, h2, h3⟩ := HT.out
            rw [List.take_add_one, List.take_add_one, h1, h2, h3]
          case measure => simp [intOf]; omega
        · have hXY' : (!X == Y) = true := by simpa using hXY
          have hne : rs ≠ rs' := by
            rintro rfl
            have h1 := HT.out.2.1
            rw [HT.out.2.2] at h1
            exact hXY (Option.some.inj h1).symm
          have HNE := Lib.hid hne
          clear hne
          go_wp2_with fail
          go_quiet (fail)
          go_wp2_with fail
          go_ret
          exact ⟨by rw [decide_eq_false HNE.out]; rfl, _, World.drewN_drewN ..⟩
      · obtain rfl : k = n := by omega
        have HT := Lib.hid htk
        clear hin htk
        go_wp2_with fail
        go_ret
        obtain ⟨hv, hr, hv', hr', hn, hn'⟩ := H.out
        have h1 := HT.out
        rw [List.take_of_length_le (by omega), List.take_of_length_le (by omega)] at h1
        exact ⟨by rw [decide_eq_true h1]; rfl, m, rfl⟩
  · have hne : rs ≠ rs' := by rintro rfl; omega
    have hnn' : ((n : Int) != (n' : Int)) = true := by simp; omega
    have H := Lib.hid hne
    clear hv hr hv' hr' hn hn' hne
    go_enter Try.func33, Try.ntmps33
    go_wp2_with fail
    go_ret
    exact ⟨by rw [decide_eq_false H.out]; rfl, 0, rfl⟩

/-- How many bytes the statements reckon for records. -/
def sizeF (rs : List (List UInt8)) : Nat := (rs.map fun r => r.length + 16).sum
theorem sizeF_take (rs : List (List UInt8)) (k : Nat) (r : List UInt8) (h : rs[k]? = some r) : sizeF (rs.take (k + 1)) = sizeF (rs.take k) + (r.length + 16) := by
  simp [sizeF, List.take_add_one, h]
theorem sizeF_take_le (rs : List (List UInt8)) (k : Nat) : sizeF (rs.take k) ≤ sizeF rs := by
  have h := congrArg (fun l => (l.map (fun r : List UInt8 => r.length + 16)).sum) (List.take_append_drop k rs)
  simp only [List.map_append, List.sum_append] at h
  unfold sizeF
  omega
set_option maxRecDepth 100000 in
set_option maxHeartbeats 1000000 in
theorem recsize_any {v : Value} {n : Nat} {cs : List Value} {rs : List (List UInt8)} (hv : Rd w 33 1 v n cs) (hr : RecsAt w cs rs) (hs : sizeF rs ≤ 1073741824) :
    Calls Try.prog 36 #[v] w fun e w' => e = .returned (.int .i64 (sizeF rs)) ∧ w = w' := by
  have hn : rs.length = n := by have h1 := hr.1; have h2 := hv.1; omega
  obtain ⟨va, vc, rfl⟩ := hv.form
  have hm := hv.2.1
  unfold maxLen at hm
  have H := Lib.hid (And.intro hv (And.intro hr (And.intro hn hs)))
  clear hv hr hn hs
  go_enter Try.func36, Try.ntmps36
  go_wp2_with fail
  go_loop [3, 4] (fun tv iv => ∃ k T : Nat, k ≤ n ∧ iv = .int .i64 k ∧ tv = .int .i64 T ∧ T ≤ 1073741824 ∧ Hid (T = sizeF (rs.take k))) (fun _ iv => n - (intOf iv).toNat)
  case atStart => exact ⟨0, 0, Nat.zero_le _, rfl, rfl, by omega, Lib.hid (by simp [sizeF])⟩
  case round =>
    obtain ⟨k, T, hk, rfl, rfl, hT, hin⟩ := hrel
    by_cases hlt : k < n
    · obtain ⟨hv, hr, hn, hs⟩ := H.out
      obtain ⟨b, off, c, e1, _, hc⟩ := hv.cell (by omega)
      simp only [Value.slice.injEq, true_and] at e1
      obtain ⟨rfl, rfl⟩ := e1
      have hcl : k < cs.length := by rw [hr.1]; omega
      have d := hc k (by omega)
      rw [List.getElem?_eq_getElem hcl] at d
      obtain ⟨X, hX⟩ : ∃ X, rs[k]? = some X := ⟨_, List.getElem?_eq_getElem (by omega)⟩
      have q := hr.2 k _ _ (List.getElem?_eq_getElem hcl) hX
      obtain ⟨xa, xc, hx⟩ := q.form
      rw [hx] at d
      have h1 := sizeF_take rs k X hX
      have h2 := sizeF_take_le rs (k + 1)
      have h3 := hin.out
      obtain ⟨L, hL⟩ : ∃ L, X.length = L := ⟨_, rfl⟩
      rw [hL] at d
      have hLb : T + (L + 16) ≤ 1073741824 := by omega
      have HIN := Lib.hid (show T + (L + 16) = sizeF (rs.take (k + 1)) by omega)
      clear hin hc q hx h1 h2 h3 hL hX hv hr hn hs hcl
      go_wp2_with fail
      go_round
      case rel => exact ⟨k + 1, T + (L + 16), by omega, by go_num, by go_num, hLb, HIN.out⟩
      case measure => simp [intOf]; omega
    · obtain rfl : k = n := by omega
      have h3 := hin.out
      rw [List.take_of_length_le (by have := H.out.2.2.1; omega)] at h3
      have H3 := Lib.hid h3
      clear hin h3
      go_wp2_with fail
      go_ret
      exact ⟨by rw [← H3.out]; rfl, rfl⟩

/-- The bytes of the statements' records. -/
def batchR (i k n : Nat) : List UInt8 := (List.range n).map fun j => UInt8.ofNat (31 * i + 7 * k + j)
def batchF (i : Nat) (lens : List UInt8) : List (List UInt8) := (List.range lens.length).map fun k => batchR i k (lens.getD k 0).toNat
theorem batchR_snoc (i k n : Nat) : batchR i k (n + 1) = batchR i k n ++ [UInt8.ofNat (31 * i + 7 * k + n)] := by simp [batchR, List.range_succ]
theorem batchR_length (i k n : Nat) : (batchR i k n).length = n := by simp [batchR]
theorem batchF_length (i : Nat) (lens : List UInt8) : (batchF i lens).length = lens.length := by simp [batchF]
theorem batchF_take (i : Nat) (lens : List UInt8) (k : Nat) (h : k < lens.length) : (batchF i lens).take (k + 1) = (batchF i lens).take k ++ [batchR i k (lens.getD k 0).toNat] := by
  rw [List.take_succ_eq_append_getElem (by rw [batchF_length]; exact h)]
  simp [batchF]
end
end Go.Proofs.Ytekolejeliefdaa
