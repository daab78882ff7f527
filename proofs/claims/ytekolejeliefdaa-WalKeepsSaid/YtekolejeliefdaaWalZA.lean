/- The law WalKeeps. -/
import Derived.Test.YtekolejeliefdaaWalZ
set_option linter.unusedVariables false
set_option linter.unusedSimpArgs false
namespace Go.Proofs.Ytekolejeliefdaa
open Go.RowKit

theorem body_size : ∀ (rs : List (List UInt8)), (bodyF rs).length + 12 * rs.length = sizeF rs
  | [] => by simp [bodyF, sizeF]
  | r :: rs => by
    have ih := body_size rs
    have e : bodyF (r :: rs) = putF 4 r.length ++ (r ++ bodyF rs) := by simp [bodyF, recF]
    have e2 : sizeF (r :: rs) = (r.length + 16) + sizeF rs := by simp [sizeF]
    rw [e, e2]
    simp only [List.length_append, putF_length, List.length_cons]
    omega
theorem secs_top {z n : Nat} (hz : 0 < z) : secsF z n * z ≤ n + z - 1 := by
  have h7 := Nat.div_add_mod n z
  have h8 : n % z < z := Nat.mod_lt _ hz
  unfold secsF
  rw [Nat.add_mul, Nat.mul_comm (n / z) z]
  rcases Nat.eq_zero_or_pos (n % z) with h9 | h9
  · rw [h9] at h7 ⊢
    simp
    omega
  · have : min (n % z) 1 = 1 := by omega
    rw [this]
    omega
/-- Where the script stands. -/
def KeepState (w0 w : World) (lp um p g m N : Nat) (v : Value) (i c : Nat) : Prop :=
  ∃ s l all, Sys w0 w lp um p g m s l ∧ Inv s l all ∧ s.size = 256 ∧ s.sure.length = N ∧ l.turn ≤ i ∧ l.next ≤ i ∧ all.length = c ∧ c ≤ 6 * i ∧ Recs w g v all
section
variable {w0 w : World} {lp um p g m N : Nat} {v : Value} {i c : Nat}
/-- The batch of an act, and how much room there is. -/
def KeepMid (w0 w : World) (lp um p g m N : Nat) (v : Value) (i c : Nat) (vb : Value) (B : List (List UInt8)) (R : Nat) : Prop :=
  ∃ s l all, Sys w0 w lp um p g m s l ∧ Inv s l all ∧ s.size = 256 ∧ s.sure.length = N ∧ l.turn ≤ i ∧ l.next ≤ i ∧ all.length = c ∧ c ≤ 6 * i ∧ Recs w g v all ∧ Recs w g vb B ∧ R = (N / 2 - l.at_) * 240 - 36 ∧ l.at_ ≤ N / 2
theorem keep_batch (h : KeepState w0 w lp um p g m N v i c) (hi : i ≤ 30) {vl : Value} {nl : Nat} {L : List UInt8} (hl : BytesIn w vl nl L) (hnl : nl ≤ 6) :
    Calls Try.prog 29 #[.int .i64 i, vl] w fun e w1 => ∃ a cc R, e = .returned (.slice a nl cc) ∧ R ≤ 100000000 ∧ Hid (Calls Try.prog 35 #[.pointer (some ⟨lp, 0, none⟩)] w1 (fun e w2 => e = .returned (.int .i64 (R : Nat)) ∧ w1 = w2) ∧ KeepMid w0 w1 lp um p g m N v i c (.slice a nl cc) (batchF i L) R) := by
  obtain ⟨s, l, all, hS, hI, hz, hn, ht, hx, hc, hc6, hR⟩ := h
  refine (batch_recs (g := g) i (by omega) hl (by omega) hS.log.disk.lt.2.1).mono ?_
  rintro e w1 ⟨a, cc, rfl, hb, hbl⟩
  have hxw : Ext (fun _ => False) w w1 := Ext.of_below hbl (Nat.le_refl _)
  have hS1 := hS.new_ext hxw
  have hat := hI.at_
  have hrm := room_any hS1.log hat
  have hN := hI.live.ok.n2
  rw [hz, hn] at hrm
  rw [hn] at hat hN
  have hb2 : (N / 2 - l.at_) * 240 ≤ 2048 * 240 := Nat.mul_le_mul (by omega) (by omega)
  exact ⟨a, cc, (N / 2 - l.at_) * 240 - 36, rfl, by omega, hrm, s, l, all, hS1, hI, hz, hn, ht, hx, hc, hc6, hR.new_ext hxw, hb, rfl, hat⟩
/-- The log is opened anew. -/
theorem keep_open {vb : Value} {B : List (List UInt8)} {R : Nat} (h : KeepMid w0 w lp um p g m N v i c vb B R) : Calls Try.prog 27 #[.pointer (some ⟨p, 0, none⟩)] w fun e w1 => ∃ lp' um' a cc, e = .returned (.tuple #[.pointer (some ⟨lp', 0, none⟩), .slice a c cc, .int .i64 0]) ∧
    Hid (Calls Try.prog 33 #[.slice a c cc, v] w1 fun e w2 => e = .returned (.bool true) ∧ Hid (KeepState w0 w2 lp' um' p g m N v (i + 1) c)) := by
  obtain ⟨s, l, all, hS, hI, hz, hn, ht, hx, hc, hc6, hR, _⟩ := h
  refine (open_sys hS.dsk hI).mono ?_
  rintro e w1 ⟨lp', um', a, cc, rfl, h1, h2, h3, _⟩
  rw [hc] at h2 ⊢
  have hR1 := hR.new_ext (w1 := w1) (Ext.of_below h3 (Nat.le_refl _))
  refine ⟨lp', um', a, cc, rfl, ?_⟩
  refine (same_recs h2 hR1).mono ?_
  rintro e w2 ⟨rfl, hx2⟩
  exact ⟨by rw [decide_eq_true rfl], s, l, all, h1.new_ext hx2, hI, hz, hn, by omega, by omega, hc, by omega, hR1.new_ext hx2⟩
/-- The log is reset. -/
theorem keep_reset {vb : Value} {L : List UInt8} {R : Nat} (h : KeepMid w0 w lp um p g m N v i c vb (batchF i L) R) (hi : i ≤ 30) (hL : L.length ≤ 6) (hN : 60 ≤ N) :
    Calls Try.prog 31 #[.pointer (some ⟨lp, 0, none⟩), vb] w fun e w1 => e = .returned (.int .i64 0) ∧
      Hid (Calls Try.prog 32 #[.pointer (some ⟨lp, 0, none⟩)] w1 (fun e w2 => e = .returned (.int .i64 L.length) ∧ w1 = w2) ∧ KeepState w0 w1 lp um p g m N vb (i + 1) L.length) := by
  obtain ⟨s, l, all, hS, hI, hz, hn, ht, hx, hc, hc6, hR, hB, _, hat⟩ := h
  have hbb := body_batch i L
  have hbn : (bodyF (batchF i L)).length ≤ 1554 := by
    have : L.length * 259 ≤ 6 * 259 := Nat.mul_le_mul_right _ hL
    omega
  rcases hI.reset (by omega) (batchF i L) with ⟨h1, _⟩ | ⟨_, h1, _⟩ | ⟨_, _, s3, l3, hre, hI3, hz3, hn3, ht3, hx3, _⟩
  · rw [hbb.2] at h1
    cases h1
  · exfalso
    unfold fullF at h1
    rw [hz, hn] at h1
    have : 30 * 240 ≤ (N / 2 - 0) * (256 - 16) := Nat.mul_le_mul (by omega) (by omega)
    omega
  · obtain ⟨cs2, hrd2, hra2⟩ := hB.rd
    refine (reset_sys hS hI.und hrd2 hra2 (by omega) hre).mono ?_
    rintro e w3 ⟨rfl, hS3, hx4⟩
    have hcl : l3.count = L.length := by rw [hI3.count, batchF_length]
    have hct := count_any hS3.log
    rw [hcl] at hct
    exact ⟨rfl, hct, s3, l3, _, hS3, hI3, by omega, by omega, by omega, by omega, batchF_length _ _, by omega, hS.log.keepR hx4 (fun _ h => h) hB⟩
/-- Records are committed: there is no room, or they are there. -/
theorem keep_commit {vb : Value} {L : List UInt8} {R : Nat} (h : KeepMid w0 w lp um p g m N v i c vb (batchF i L) R) (hi : i ≤ 30) (hL : L.length ≤ 6) :
    Calls Try.prog 28 #[.pointer (some ⟨lp, 0, none⟩), vb] w fun e w1 =>
      (e = .returned (.int .i64 40) ∧ R < sizeF (batchF i L) + 512 ∧ Hid (Recs w1 g vb (batchF i L) ∧ KeepState w0 w1 lp um p g m N v (i + 1) c)) ∨
      (e = .returned (.int .i64 0) ∧ ∃ all, Hid (all.length = c ∧ Recs w1 g v all ∧ Recs w1 g vb (batchF i L) ∧ g + 1 ≤ w1.heap.size ∧
        ∀ w2 v2, Ext (fun _ => False) w1 w2 → Recs w2 g v2 (all ++ batchF i L) → ∃ R2, (R : Int) - (sizeF (batchF i L) : Nat) - 512 ≤ (R2 : Nat) ∧ R2 ≤ 100000000 ∧ Hid (Recs w2 g vb (batchF i L) ∧
          Calls Try.prog 35 #[.pointer (some ⟨lp, 0, none⟩)] w2 (fun e w3 => e = .returned (.int .i64 (R2 : Nat)) ∧ w2 = w3) ∧
          Calls Try.prog 32 #[.pointer (some ⟨lp, 0, none⟩)] w2 (fun e w3 => e = .returned (.int .i64 (c + L.length : Nat)) ∧ w2 = w3) ∧ KeepState w0 w2 lp um p g m N v2 (i + 1) (c + L.length)))) := by
  obtain ⟨s, l, all, hS, hI, hz, hn, ht, hx, hc, hc6, hR, hB, hRR, hat⟩ := h
  have hbb := body_batch i L
  have hbs := body_size (batchF i L)
  have hN := hI.live.ok.n2
  rw [hn] at hN
  obtain ⟨cs2, hrd2, hra2⟩ := hB.rd
  have hbl : (batchF i L).length = L.length := batchF_length _ _
  have hcnt := hI.count
  have key : ∀ s' l' e', commitF s l (batchF i L) = (s', l', e') → Calls Try.prog 28 #[.pointer (some ⟨lp, 0, none⟩), vb] w fun x w' => x = .returned (.int .i64 e') ∧ Hid (Sys w0 w' lp um p g m s' l' ∧ Ext (fun k => k = p ∨ k = g ∨ k = m ∨ k = um ∨ k = lp) w w') :=
    fun s' l' e' hco => commit_sys hS hI.und hrd2 hra2 (by omega) (by omega) hI.at_ (by omega) hco
  rcases hI.commit (by omega) (batchF i L) with ⟨h1, _⟩ | ⟨_, h1, hco⟩ | ⟨_, h1, s', l', hco, hI', hz', hn', ht', hx', ha'⟩
  · rw [hbb.2] at h1
    cases h1
  · refine (key _ _ _ hco).mono ?_
    rintro e w1 ⟨rfl, hS1, hx1⟩
    refine .inl ⟨rfl, ?_, hS.log.keepR hx1 (fun _ h => h) hB, s, l, all, hS1, hI, hz, hn, by omega, by omega, hc, by omega, hS.log.keepR hx1 (fun _ h => h) hR⟩
    unfold fullF at h1
    rw [hz, hn] at h1
    omega
  · refine (key _ _ _ hco).mono ?_
    rintro e w1 ⟨rfl, hS1, hx1⟩
    refine .inr ⟨rfl, all, hc, hS.log.keepR hx1 (fun _ h => h) hR, hS.log.keepR hx1 (fun _ h => h) hB, hS1.log.disk.lt.2.1, ?_⟩
    intro w2 v2 hx2 hR2
    have hS2 := hS1.new_ext hx2
    have hat' := hI'.at_
    rw [hn', hn] at hat'
    have hrm := room_any hS2.log (by rw [hn', hn]; exact hat')
    rw [hz', hz, hn', hn] at hrm
    have hcl : l'.count = c + L.length := by rw [hI'.count, List.length_append, hc, hbl]
    have hct := count_any hS2.log
    rw [hcl] at hct
    have hb2 : (N / 2 - l'.at_) * 240 ≤ 2048 * 240 := Nat.mul_le_mul (by omega) (by omega)
    refine ⟨(N / 2 - l'.at_) * 240 - 36, ?_, by omega, (hS.log.keepR hx1 (fun _ h => h) hB).new_ext hx2, hrm, hct, s', l', _, hS2, hI', by omega, by omega, by omega, by omega, by rw [List.length_append, hc, hbl], by omega, hR2⟩
    unfold takeF at ha'
    rw [hz] at ha'
    have htop := secs_top (z := 240) (n := 32 + (bodyF (batchF i L)).length) (by omega)
    obtain ⟨K, hK⟩ : ∃ K, secsF 240 (32 + (bodyF (batchF i L)).length) = K := ⟨_, rfl⟩
    have ha2 : l'.at_ = l.at_ + K := by rw [ha', ← hK]
    rw [hK] at htop
    have e1 : (N / 2 - l.at_) * 240 = (N / 2 - l'.at_) * 240 + K * 240 := by rw [← Nat.add_mul]; congr 1; omega
    omega
theorem KeepMid.below {vb : Value} {B : List (List UInt8)} {R : Nat} (h : KeepMid w0 w lp um p g m N v i c vb B R) : Below w0.heap.size w0 w := by
  obtain ⟨s, l, all, hS, _⟩ := h
  exact hS.below
theorem KeepState.below (h : KeepState w0 w lp um p g m N v i c) : Below w0.heap.size w0 w := by
  obtain ⟨s, l, all, hS, _⟩ := h
  exact hS.below
theorem keep_count (h : KeepState w0 w lp um p g m N v i c) : Calls Try.prog 32 #[.pointer (some ⟨lp, 0, none⟩)] w fun e w2 => e = .returned (.int .i64 c) ∧ w = w2 := by
  obtain ⟨s, l, all, hS, hI, hz, hn, ht, hx, hc, _⟩ := h
  have hct := count_any hS.log
  rwa [hI.count, hc] at hct
theorem size_le (k : Nat) (L : List UInt8) (hL : L.length ≤ 6) : sizeF (batchF k L) ≤ 1626 := by
  have h1 := body_size (batchF k L)
  have h2 := (body_batch k L).1
  rw [batchF_length] at h1
  omega
theorem size_recs {vb : Value} {k : Nat} {L : List UInt8} (h : Recs w g vb (batchF k L)) (hL : L.length ≤ 6) : Calls Try.prog 36 #[vb] w fun e w' => e = .returned (.int .i64 (sizeF (batchF k L))) ∧ w = w' := by
  obtain ⟨cs, h1, h2⟩ := h.rd
  exact recsize_any h1 h2 (by have := size_le k L hL; omega)
end
end Go.Proofs.Ytekolejeliefdaa
