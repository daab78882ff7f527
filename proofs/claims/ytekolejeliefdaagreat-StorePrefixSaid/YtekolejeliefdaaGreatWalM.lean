/- The log, plain: bytes, sectors' contents, a frame that was laid is read. No program in sight. -/
import Derived.Test.YtekolejeliefdaaGreatWalL
set_option linter.unusedVariables false
set_option linter.unusedSimpArgs false
namespace Go.Proofs.YtekolejeliefdaaGreat
open Go.RowKit

theorem getF_snoc (xs : List UInt8) (x : UInt8) : getF (xs ++ [x]) = getF xs * 256 % 18446744073709551616 + x.toNat := by simp [getF]
theorem putF_succ (k n : Nat) : putF (k + 1) n = putF k (n / 256) ++ [UInt8.ofNat n] := by
  unfold putF
  rw [List.range_succ, List.map_append, List.map_singleton]
  congr 1
  · apply List.map_congr_left
    intro i hi
    rw [List.mem_range] at hi
    congr 1
    have h1 : 8 * (k + 1 - 1 - i) = 8 + 8 * (k - 1 - i) := by omega
    rw [Nat.div_div_eq_div_mul, h1, Nat.pow_add]
  · simp
theorem getF_putF : ∀ (k n : Nat), k ≤ 8 → getF (putF k n) = n % 2 ^ (8 * k)
  | 0, n, _ => by simp [putF, getF, Nat.mod_one]
  | k + 1, n, h => by
    rw [putF_succ, getF_snoc, getF_putF k (n / 256) (by omega)]
    have h1 : (UInt8.ofNat n).toNat = n % 256 := by simp
    have h2 : 8 * (k + 1) = 8 + 8 * k := by omega
    have h3 : 2 ^ (8 * k) ≤ 2 ^ 56 := Nat.pow_le_pow_right (by omega) (by omega)
    have h4 : n / 256 % 2 ^ (8 * k) < 2 ^ (8 * k) := Nat.mod_lt _ (Nat.pow_pos (by omega))
    rw [h1, h2, Nat.pow_add, Nat.mod_mul]
    generalize n / 256 % 2 ^ (8 * k) = m at *
    generalize 2 ^ (8 * k) = P at *
    have h5 : (2 : Nat) ^ 56 = 72057594037927936 := by decide
    have h6 : (2 : Nat) ^ 8 = 256 := by decide
    rw [h6]
    rw [Nat.mod_eq_of_lt (by omega)]
    omega
theorem getF_put8 (n : Nat) (h : n < 18446744073709551616) : getF (putF 8 n) = n := by
  rw [getF_putF 8 n (by omega)]
  exact Nat.mod_eq_of_lt (by simpa using h)
theorem getF_put4 (n : Nat) (h : n < 4294967296) : getF (putF 4 n) = n := by
  rw [getF_putF 4 n (by omega)]
  exact Nat.mod_eq_of_lt (by simpa using h)
theorem getF_lt (xs : List UInt8) : getF xs < 18446744073709551616 := by
  rcases List.eq_nil_or_concat xs with rfl | ⟨ys, y, rfl⟩
  · simp [getF]
  · rw [List.concat_eq_append, getF_snoc]
    have := y.toNat_lt
    omega
theorem getF_zero (k : Nat) : getF (List.replicate k 0) = 0 := by
  induction k with
  | zero => rfl
  | succ k ih => rw [List.replicate_succ', getF_snoc, ih]; rfl

/-- Records' bytes are read as these records. -/
theorem recsF_body : ∀ (rs : List (List UInt8)) (f : Nat), (∀ r ∈ rs, r.length < 4294967296) → (bodyF rs).length ≤ f → recsF f (bodyF rs) = some rs
  | [], f, _, _ => recsF_nil f
  | r :: rs, f, h, hf => by
    have e : bodyF (r :: rs) = putF 4 r.length ++ (r ++ bodyF rs) := by simp [bodyF, recF]
    rw [e] at hf ⊢
    simp only [List.length_append, putF_length] at hf
    have hr : r.length < 4294967296 := h r (by simp)
    rw [recsF_step f _ (by simp; omega) (by simp; omega)]
    have h1 : (putF 4 r.length ++ (r ++ bodyF rs)).take 4 = putF 4 r.length := by
      rw [List.take_append_of_le_length (by simp), List.take_of_length_le (by simp)]
    have h2 : (putF 4 r.length ++ (r ++ bodyF rs)).drop (4 + r.length) = bodyF rs := by
      rw [← List.append_assoc]
      exact List.drop_left' (by simp)
    have h3 : ((putF 4 r.length ++ (r ++ bodyF rs)).drop 4).take r.length = r := by
      rw [List.drop_append_of_le_length (by simp), List.drop_of_length_le (by simp)]
      simp
    rw [h1, getF_put4 _ hr, h2, h3, if_neg (by simp), if_neg (by simp), recsF_body rs (f - 1) (fun q hq => h q (by simp [hq])) (by omega)]
    rfl

/-! Sectors' contents. -/
theorem dget_dins (i : Nat) (x : List UInt8) (j : Nat) : ∀ (d : List (Nat × List UInt8)), (∀ q ∈ d, q.1 ≠ i) → dget (dins (i, x) d) j = if i = j then some x else dget d j
  | [], _ => by simp [dins, dget_cons, dget]
  | y :: d, h => by
    have hy := h y (by simp)
    simp only [dins]
    split
    · rw [dget_cons]
    · rw [dget_cons, dget_dins i x j d (fun q hq => h q (by simp [hq])), dget_cons]
      by_cases h1 : y.1 = j
      · rw [if_pos h1, if_pos h1, if_neg (by omega)]
      · rw [if_neg h1, if_neg h1]
theorem dget_del (i j : Nat) : ∀ (d : List (Nat × List UInt8)), dget (d.filter (fun q => !(q.1 == i))) j = if i = j then none else dget d j
  | [] => by simp [dget]
  | y :: d => by
    rw [List.filter_cons]
    by_cases h1 : y.1 = i
    · have : (!(y.1 == i)) = false := by simp [h1]
      rw [this]
      simp only [Bool.false_eq_true, if_false]
      rw [dget_del i j d, dget_cons]
      by_cases h2 : i = j
      · rw [if_pos h2, if_pos h2]
      · rw [if_neg h2, if_neg h2, if_neg (by omega)]
    · have : (!(y.1 == i)) = true := by simp [h1]
      rw [this, if_pos rfl, dget_cons, dget_del i j d, dget_cons]
      by_cases h2 : i = j
      · rw [if_pos h2, if_pos h2, if_neg (by omega)]
      · rw [if_neg h2, if_neg h2]
theorem dget_dput (d : List (Nat × List UInt8)) (i j : Nat) (x : List UInt8) : dget (dput d i x) j = if i = j then some x else dget d j := by
  unfold dput
  rw [dget_dins i x j _ (by intro q hq; simp at hq; exact hq.2), dget_del]
  split <;> rfl
theorem last_write (s : DS) (i j : Nat) (b : List UInt8) : ({ s with dirty := dput s.dirty i b } : DS).last j = if i = j then b else s.last j := by
  unfold DS.last
  simp only [dget_dput]
  split <;> rfl
theorem dget_mem {d : List (Nat × List UInt8)} {j : Nat} {x : List UInt8} (h : dget d j = some x) : (j, x) ∈ d := by
  simp only [dget, Option.map_eq_some_iff] at h
  obtain ⟨q, hq, rfl⟩ := h
  have h1 := List.find?_some hq
  have h2 := List.mem_of_find?_eq_some hq
  simp at h1
  rw [← h1]
  exact h2
theorem dget_snoc (d : List (Nat × List UInt8)) (q : Nat × List UInt8) (j : Nat) : dget (d ++ [q]) j = (dget d j).or (if q.1 = j then some q.2 else none) := by
  induction d with
  | nil => simp [dget_cons, dget]
  | cons y d ih =>
    rw [List.cons_append, dget_cons, ih, dget_cons]
    split <;> rfl
/-- What settling leaves at a place. -/
theorem stk_at (f : Nat → List UInt8 → List UInt8 → List UInt8) (d : List (Nat × List UInt8)) (sure : List (List UInt8)) (hd : d.Pairwise (fun p q => p.1 < q.1)) (hb : ∀ q ∈ d, q.1 < sure.length) (j : Nat) :
    ∀ n, n ≤ d.length → (dget (d.take n) j = none → (stk f d sure n).getD j [] = sure.getD j []) ∧ (∀ x, dget (d.take n) j = some x → ∃ k, (stk f d sure n).getD j [] = f k (sure.getD j []) x)
  | 0, _ => by
    refine ⟨fun _ => rfl, fun x h => ?_⟩
    simp [dget] at h
  | n + 1, hn => by
    obtain ⟨ih1, ih2⟩ := stk_at f d sure hd hb j n (by omega)
    have hq : d[n]? = some d[n] := List.getElem?_eq_getElem (by omega)
    have ht : d.take (n + 1) = d.take n ++ [d[n]] := by rw [List.take_succ_eq_append_getElem (by omega)]
    have hs : stk f d sure (n + 1) = (stk f d sure n).set d[n].1 (f n ((stk f d sure n).getD d[n].1 []) d[n].2) := by
      rw [stk, hq]
    have hl : d[n].1 < (stk f d sure n).length := by
      rw [stk_length]
      exact hb _ (List.getElem_mem _)
    rw [ht, dget_snoc, hs]
    by_cases hj : d[n].1 = j
    · have hnone : dget (d.take n) j = none := by
        cases hx : dget (d.take n) j with
        | none => rfl
        | some x =>
          exfalso
          have hm := dget_mem hx
          obtain ⟨i, hi, he⟩ := List.getElem_of_mem hm
          rw [List.length_take] at hi
          rw [List.getElem_take] at he
          have := List.pairwise_iff_getElem.1 hd i n (by omega) (by omega) (by omega)
          rw [he] at this
          simp at this
          omega
      rw [hnone, if_pos hj]
      refine ⟨fun h => by simp at h, fun x hx => ⟨n, ?_⟩⟩
      simp only [Option.none_or, Option.some.injEq] at hx
      subst hx
      rw [List.getD_eq_getElem?_getD, ← hj, List.getElem?_set_self hl]
      simp only [Option.getD_some]
      rw [hj, ih1 hnone]
    · rw [if_neg hj, Option.or_none, List.getD_eq_getElem?_getD, List.getElem?_set_ne hj, ← List.getD_eq_getElem?_getD]
      exact ⟨ih1, ih2⟩
theorem last_flush {s : DS} (h : s.Ok) (j : Nat) : (s.settled (fun _ _ l => l)).last j = s.last j := by
  have hk := stk_at (fun _ _ l => l) s.dirty s.sure h.ds (fun q hq => (h.dz q hq).1) j s.dirty.length (Nat.le_refl _)
  rw [List.take_length] at hk
  have e : (s.settled (fun _ _ l => l)).last j = (stk (fun _ _ l => l) s.dirty s.sure s.dirty.length).getD j [] := by simp [DS.settled, DS.last, dget]
  rw [e]
  unfold DS.last
  cases hx : dget s.dirty j with
  | none => rw [hk.1 hx]; rfl
  | some x => obtain ⟨k, hk2⟩ := hk.2 x hx; rw [hk2]; rfl
end Go.Proofs.YtekolejeliefdaaGreat
