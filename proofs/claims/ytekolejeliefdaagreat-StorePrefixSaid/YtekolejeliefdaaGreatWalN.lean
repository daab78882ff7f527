/- The log, plain: a frame that lies on a disk is read. No program in sight. -/
import Derived.Test.YtekolejeliefdaaGreatWalM
set_option linter.unusedVariables false
set_option linter.unusedSimpArgs false
namespace Go.Proofs.YtekolejeliefdaaGreat
open Go.RowKit

theorem secs_mul {z n : Nat} (hz : 0 < z) : n ≤ secsF z n * z := by
  have h7 := Nat.div_add_mod n z
  have h8 : n % z < z := Nat.mod_lt _ hz
  unfold secsF
  rw [Nat.add_mul, Nat.mul_comm (n / z) z]
  rcases Nat.eq_zero_or_pos (n % z) with h9 | h9
  · omega
  · have : min (n % z) 1 = 1 := by omega
    rw [this]
    omega
theorem secs_low {z n i : Nat} (hz : 0 < z) (hi : i < secsF z n) : i * z < n := by
  have h7 := Nat.div_add_mod n z
  have h8 : n % z < z := Nat.mod_lt _ hz
  unfold secsF at hi
  rw [Nat.mul_comm z] at h7
  rcases Nat.eq_zero_or_pos (n % z) with h9 | h9
  · have h1 : i + 1 ≤ n / z := by omega
    have h2 := Nat.mul_le_mul_right z h1
    rw [Nat.add_mul] at h2
    omega
  · have h1 : i ≤ n / z := by omega
    have h2 := Nat.mul_le_mul_right z h1
    omega
@[simp] theorem signF_length : signF.length = 8 := rfl
theorem frameF_length (t n : Nat) (rs : List (List UInt8)) : (frameF t n rs).length = 32 + (bodyF rs).length := by
  simp [frameF]
  omega
/-- A frame's bytes in one sector. -/
def pieceF (z : Nat) (b : List UInt8) (i : Nat) : List UInt8 := (b.drop (i * z)).take z ++ List.replicate (z - ((b.drop (i * z)).take z).length) 0
/-- What stands behind them. -/
def tailF (t n i : Nat) : List UInt8 := if i = 0 then putF 8 t ++ putF 8 ((n + 1) % 18446744073709551616) else List.replicate 16 0
theorem secF_eq (z t n : Nat) (b : List UInt8) (i : Nat) : secF z t n b i = pieceF z b i ++ tailF t n i := rfl
theorem pieceF_length (z : Nat) (b : List UInt8) (i : Nat) : (pieceF z b i).length = z := by
  have h : ((b.drop (i * z)).take z).length ≤ z := List.length_take_le _ _
  rw [pieceF, List.length_append, List.length_replicate]
  omega
theorem tailF_length (t n i : Nat) : (tailF t n i).length = 16 := by
  unfold tailF
  split <;> simp
theorem secF_length (z t n : Nat) (b : List UInt8) (i : Nat) : (secF z t n b i).length = z + 16 := by
  rw [secF_eq, List.length_append, pieceF_length, tailF_length]
theorem secF_take (z t n : Nat) (b : List UInt8) (i : Nat) : (secF z t n b i).take z = pieceF z b i := by
  rw [secF_eq]
  exact List.take_left' (pieceF_length z b i)
theorem secF_drop (z t n : Nat) (b : List UInt8) (i : Nat) : (secF z t n b i).drop z = tailF t n i := by
  rw [secF_eq]
  exact List.drop_left' (pieceF_length z b i)
theorem pieces (z : Nat) (b : List UInt8) : ∀ j, (∀ i, i < j → i * z ≤ b.length) → (List.range j).flatMap (pieceF z b) = b.take (j * z) ++ List.replicate (j * z - b.length) 0
  | 0, _ => by simp
  | j + 1, h => by
    rw [List.range_succ, List.flatMap_append, pieces z b j (fun i hi => h i (by omega))]
    have hj := h j (by omega)
    have h0 : j * z - b.length = 0 := by omega
    rw [h0]
    simp only [List.replicate_zero, List.append_nil, List.flatMap_cons, List.flatMap_nil, pieceF]
    have h1 : (j + 1) * z = j * z + z := by rw [Nat.add_mul, Nat.one_mul]
    rw [h1, List.take_add, ← List.append_assoc, List.length_take, List.length_drop]
    congr 2
    omega
/-- A frame of these records lies on a side, at a place. -/
def FrameAt (s : DS) (side a n t : Nat) (rs : List (List UInt8)) : Prop :=
  a + secsF (s.size - 16) (32 + (bodyF rs).length) ≤ s.sure.length / 2 ∧ ∀ i, i < secsF (s.size - 16) (32 + (bodyF rs).length) → s.last (side * (s.sure.length / 2) + (a + i)) = secF (s.size - 16) t n (frameF t n rs) i
theorem secAt_live {s : DS} {side a : Nat} (hd : s.dead = false) (hs : side ≤ 1) (ha : a < s.sure.length / 2) : secAt s side a = .ok (s.last (side * (s.sure.length / 2) + a)) := by
  have h1 : side * (s.sure.length / 2) ≤ 1 * (s.sure.length / 2) := Nat.mul_le_mul_right _ hs
  have h2 : s.at ((side * (s.sure.length / 2) + a : Nat) : Int) = 0 := by
    unfold DS.at
    rw [hd]
    simp only [Bool.false_eq_true, if_false]
    rw [if_neg (by omega)]
  unfold secAt
  rw [if_pos ha, if_pos h2]
  unfold DS.read
  rw [if_pos h2, Int.toNat_natCast]
theorem part_of {b pad : List UInt8} {z j m : Nat} (hj : j + m ≤ z) (hb : j + m ≤ b.length) : (((b.take z ++ pad).drop j).take m) = (b.drop j).take m := by
  have h0 : (b.take z).length = min z b.length := List.length_take ..
  rw [List.drop_append_of_le_length (by omega), List.take_append_of_le_length (by rw [List.length_drop]; omega), List.drop_take, List.take_take]
  congr 1
  omega
theorem openF_frame {s : DS} {side a n t : Nat} {rs : List (List UInt8)} (hd : s.dead = false) (hz : 128 ≤ s.size) (hs : side ≤ 1) (hf : FrameAt s side a n t rs) (ht : t < 18446744073709551616) (hn : n + 1 < 18446744073709551616)
    (hr : ∀ r ∈ rs, r.length < 4294967296) (hb : (bodyF rs).length < 18446744073709551616) : openF s side a n = .ok (t, rs, a + secsF (s.size - 16) (32 + (bodyF rs).length)) := by
  obtain ⟨hfit, hsec⟩ := hf
  obtain ⟨z, hzz⟩ : ∃ z, s.size - 16 = z := ⟨_, rfl⟩
  obtain ⟨F, hF⟩ : ∃ F, frameF t n rs = F := ⟨_, rfl⟩
  have hFl := frameF_length t n rs
  rw [hzz] at hfit hsec ⊢
  rw [hF] at hsec hFl
  obtain ⟨K, hK⟩ : ∃ K, secsF z (32 + (bodyF rs).length) = K := ⟨_, rfl⟩
  have hK1 : 1 ≤ K := hK ▸ secs_pos (by omega)
  have hKz : 32 + (bodyF rs).length ≤ K * z := hK ▸ secs_mul (by omega)
  have hKl : ∀ i, i < K → i * z < 32 + (bodyF rs).length := fun i hi => secs_low (by omega) (by rw [hK]; exact hi)
  rw [hK] at hfit hsec ⊢
  have h0 := hsec 0 (by omega)
  have hx : secAt s side a = .ok (secF z t n F 0) := by rw [secAt_live hd hs (by omega), ← h0]; simp
  have hmore : ∀ j, j + 1 ≤ K → moreAt s side j (a + 1) = .ok ((List.range j).flatMap fun i => pieceF z F (i + 1)) := by
    intro j
    induction j with
    | zero => intro _; rfl
    | succ j ih =>
      intro hj
      have h1 := hsec (j + 1) (by omega)
      have h2 : secAt s side (a + 1 + j) = .ok (secF z t n F (j + 1)) := by
        rw [secAt_live hd hs (by omega), ← h1]
        congr 3
        omega
      rw [moreAt_snoc s side j (a + 1) _ _ (ih (by omega)) h2, hzz, secF_take, List.range_succ, List.flatMap_append]
      simp
  have hb0 : pieceF z F 0 = F.take z ++ List.replicate (z - (F.take z).length) 0 := by simp [pieceF]
  have hp : ∀ j m, j + m ≤ 32 → ((pieceF z F 0).drop j).take m = (F.drop j).take m := fun j m h => by rw [hb0]; exact part_of (by omega) (by omega)
  have hF2 : F = signF ++ (putF 8 t ++ (putF 8 n ++ (putF 8 (bodyF rs).length ++ bodyF rs))) := by rw [← hF]; simp [frameF]
  have e8 : (F.drop 8).take 8 = putF 8 t := by
    rw [hF2, List.drop_left' (by simp), List.take_left' (by simp)]
  have e0 : (F.drop 0).take 8 = signF := by
    rw [hF2, List.drop_zero, List.take_left' (by simp)]
  have e16 : (F.drop 16).take 8 = putF 8 n := by
    rw [hF2, ← List.append_assoc, List.drop_left' (by simp), List.take_left' (by simp)]
  have e24 : (F.drop 24).take 8 = putF 8 (bodyF rs).length := by
    rw [hF2, ← List.append_assoc, ← List.append_assoc, List.drop_left' (by simp), List.take_left' (by simp)]
  have e32 : F.drop 32 = bodyF rs := by
    rw [hF2, ← List.append_assoc, ← List.append_assoc, ← List.append_assoc, List.drop_left' (by simp)]
  have hsign : (pieceF z F 0).take 8 = signF := by have := hp 0 8 (by omega); rwa [List.drop_zero, e0] at this
  have et0 : tailF t n 0 = putF 8 t ++ putF 8 (n + 1) := by
    unfold tailF
    rw [if_pos rfl, Nat.mod_eq_of_lt hn]
  have hcat : pieceF z F 0 ++ (List.range (K - 1)).flatMap (fun i => pieceF z F (i + 1)) = F ++ List.replicate (K * z - F.length) 0 := by
    have h1 : (List.range K).flatMap (pieceF z F) = pieceF z F 0 ++ (List.range (K - 1)).flatMap (fun i => pieceF z F (i + 1)) := by
      obtain ⟨k, rfl⟩ : ∃ k, K = k + 1 := ⟨K - 1, by omega⟩
      rw [List.range_succ_eq_map, List.flatMap_cons, List.flatMap_map]
      rfl
    rw [← h1, pieces z F K (fun i hi => by have := hKl i hi; omega), List.take_of_length_le (by omega)]
  unfold openF
  rw [hx]
  simp only [hzz, secF_take, secF_drop]
  rw [hsign, hp 16 8 (by omega), e16, getF_put8 n (by omega), hp 8 8 (by omega), e8, getF_put8 t ht, hp 24 8 (by omega), e24, getF_put8 _ hb, et0, List.take_left' (by simp), List.drop_left' (by simp), getF_put8 t ht, getF_put8 (n + 1) hn, hK,
    hmore (K - 1) (by omega)]
  rw [if_neg (by simp), if_neg (by rw [Nat.mod_eq_of_lt hn]; simp)]
  have hM : K * z ≤ (s.sure.length / 2 - a) * z := Nat.mul_le_mul_right _ (by omega)
  rw [if_neg (by omega)]
  simp only [hcat]
  rw [List.drop_append_of_le_length (by omega), e32, List.take_left' rfl, recsF_body rs _ hr (Nat.le_refl _)]
end Go.Proofs.YtekolejeliefdaaGreat
