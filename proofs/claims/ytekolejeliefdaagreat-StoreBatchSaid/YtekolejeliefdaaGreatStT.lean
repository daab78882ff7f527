/- The law StoreBatch: of a batch with a key more than once the last one counts. -/
import Derived.Test.YtekolejeliefdaaGreatStS
import Derived.Deep.Slices
import Derived.Deep.Fields
import Derived.ChangeSame
import Derived.ChangeSlices
set_option linter.unusedVariables false
set_option linter.unusedSimpArgs false
namespace Go.Proofs.YtekolejeliefdaaGreat
open Go.RowKit Go.ChangeShapes Go.WideShapes Go.Deep

theorem list_three {α : Type} (l : List α) (h : l.length = 3) : ∃ a b c, l = [a, b, c] := by
  match l, h with
  | [a, b, c], _ => exact ⟨a, b, c, rfl⟩
/-- A list out of what holds of each place. -/
theorem list_of {α : Type} {P : Nat → α → Prop} : ∀ n : Nat, (∀ i, i < n → ∃ x, P i x) → ∃ L : List α, L.length = n ∧ ∀ i x, L[i]? = some x → P i x
  | 0, _ => ⟨[], rfl, fun i x h => by simp at h⟩
  | n + 1, h => by
    obtain ⟨L, h1, h2⟩ := list_of n fun i hi => h i (by omega)
    obtain ⟨x, hx⟩ := h n (by omega)
    refine ⟨L ++ [x], by simp [h1], fun i y hy => ?_⟩
    by_cases hi : i < L.length
    · rw [List.getElem?_append_left hi] at hy
      exact h2 i y hy
    · rw [List.getElem?_append_right (by omega)] at hy
      have hi2 : i - L.length = 0 := by
        rcases Nat.eq_zero_or_pos (i - L.length) with h' | h'
        · exact h'
        · rw [List.getElem?_eq_none (by simp; omega)] at hy
          cases hy
      rw [hi2] at hy
      simp at hy
      subst hy
      have : i = n := by omega
      rw [this]
      exact hx
theorem wf_u8s {k : Int} (h : (Lit.int .u8 k).wf = true) : 0 ≤ k ∧ k < 256 := by
  simp [Lit.wf, IntKind.min, IntKind.max, IntKind.bits, IntKind.signed] at h
  omega
set_option maxRecDepth 100000 in
theorem open_pairs {H : Type} {enc : TypeId × Value → H} {w : World} {base : Nat} {held : Bool} {fuel : Nat} {a : Option Addr} {len cap : Nat} {x : DataW H × List MemPlace}
    (h : DataW.trod enc Tryz.prog w base (fun _ => true) held fuel 41 [.slice a len cap] = some x) : ∃ L, PIn w (.slice a len cap) len L := by
  rcases open_slice Tryz.underlying41 h with ⟨hcs, _⟩ | ⟨a', len', cap', m, n, D, Pl, hcs, hb, hl, hm, hmm, hx, hi⟩
  · simp only [List.cons.injEq, Value.slice.injEq, and_true] at hcs
    obtain ⟨rfl, rfl, rfl⟩ := hcs
    exact ⟨[], Nat.zero_le _, rfl, by simp, none, 0, rfl, .inl rfl⟩
  · simp only [List.cons.injEq, Value.slice.injEq, and_true] at hcs
    obtain ⟨rfl, rfl, rfl⟩ := hcs
    simp only [if_true] at hmm
    subst hmm
    have hC : (Tryz.prog).cellsOf 130 = 3 := by kernel_rfl
    have key : ∀ i, i < len → ∃ q : PI, (q.1 < 256 ∧ q.2.1 < 256) ∧ w.cell? (a'.add (i * 3)) = some (.int .u8 q.1) ∧ w.cell? ⟨(a'.add (i * 3)).block, (a'.add (i * 3)).off + 1, none⟩ = some (.int .u8 q.2.1) ∧ w.cell? ⟨(a'.add (i * 3)).block, (a'.add (i * 3)).off + 2, none⟩ = some (.bool q.2.2) := by
      intro i hil
      obtain ⟨cs', hc, ht'⟩ := hi i (by omega)
      rw [hC] at hc
      obtain ⟨ys, n', hn', hy, hlen, hyl, hf⟩ := DataW.trod_struct Tryz.underlying130 ht'
      obtain ⟨_, hcl, hat⟩ := World.cells?_some hc
      have c0 := hat 0 (by omega)
      have c1 := hat 1 (by omega)
      have c2 := hat 2 (by omega)
      have f0 := hf 0 _ rfl
      have f1 := hf 1 _ rfl
      have f2 := hf 2 _ rfl
      have k0 : (Tryz.prog).cellsOf 5 = 1 := by kernel_rfl
      have k2 : (Tryz.prog).cellsOf 4 = 1 := by kernel_rfl
      obtain ⟨u0, u1, u2, rfl⟩ := list_three cs' hcl
      have hy0 : ys[0]? = some (ys[0]'(by rw [hyl]; decide)) := List.getElem?_eq_getElem _
      have hy1 : ys[1]? = some (ys[1]'(by rw [hyl]; decide)) := List.getElem?_eq_getElem _
      have hy2 : ys[2]? = some (ys[2]'(by rw [hyl]; decide)) := List.getElem?_eq_getElem _
      change DataW.trod enc Tryz.prog w base (fun _ => true) held n' 5 (List.take ((Tryz.prog).cellsOf 5) [u0, u1, u2]) = ys[0]? at f0
      change DataW.trod enc Tryz.prog w base (fun _ => true) held n' 5 (List.take ((Tryz.prog).cellsOf 5) [u1, u2]) = ys[1]? at f1
      change DataW.trod enc Tryz.prog w base (fun _ => true) held n' 4 (List.take ((Tryz.prog).cellsOf 4) [u2]) = ys[2]? at f2
      rw [k0] at f0 f1
      rw [k2] at f2
      obtain ⟨k, e0, _, q0⟩ := DataW.trod_int Tryz.underlying5 (f0.trans hy0)
      obtain ⟨l, e1, _, q1⟩ := DataW.trod_int Tryz.underlying5 (f1.trans hy1)
      obtain ⟨g, e2, _⟩ := DataW.trod_bool Tryz.underlying4 (f2.trans hy2)
      obtain rfl : u0 = .int .u8 k := by simpa using e0
      obtain rfl : u1 = .int .u8 l := by simpa using e1
      obtain rfl : u2 = .bool g := by simpa using e2
      have r0 := wf_u8s q0
      have r1 := wf_u8s q1
      have c0' : w.cell? (a'.add (i * 3)) = some (.int .u8 k) := c0
      have c1' : w.cell? ⟨(a'.add (i * 3)).block, (a'.add (i * 3)).off + 1, none⟩ = some (.int .u8 l) := c1
      have c2' : w.cell? ⟨(a'.add (i * 3)).block, (a'.add (i * 3)).off + 2, none⟩ = some (.bool g) := c2
      refine ⟨(k.toNat, l.toNat, g), ⟨by simp only; omega, by simp only; omega⟩, ?_, ?_, c2'⟩
      · rw [c0']; simp only [Int.toNat_of_nonneg r0.1]
      · rw [c1']; simp only [Int.toNat_of_nonneg r1.1]
    obtain ⟨L, hL, hLa⟩ := list_of len key
    refine ⟨L, by omega, hL, ?_, some a', m, rfl, ?_⟩
    · intro q hq
      obtain ⟨i, hi', he⟩ := List.getElem_of_mem hq
      exact (hLa i q (by rw [← he]; exact List.getElem?_eq_getElem hi')).1
    · by_cases h0 : len = 0
      · exact .inl h0
      · refine .inr ⟨a', rfl, ?_, fun i q hq => (hLa i q hq).2⟩
        obtain ⟨q, _, h1, _⟩ := key 0 (by omega)
        have h2 : (a'.add (0 * 3)).block < w.heap.size := by
          rcases Nat.lt_or_ge (a'.add (0 * 3)).block w.heap.size with h' | h'
          · exact h'
          · simp [World.cell?, Array.getElem?_eq_none h'] at h1
        rwa [ablk] at h2

set_option maxRecDepth 100000 in
set_option maxHeartbeats 4000000 in
theorem batch_any {w : World} {v : Value} {n : Nat} {L : List PI} (hv : PIn w v n L) :
    Calls Tryz.prog 4 #[v] w fun e w' => e = .returned (.bool true) ∧ Below w.heap.size w w' := by
  have HKN := Lib.hid (known5 w)
  obtain ⟨a, c, rfl⟩ : ∃ a c, v = .slice a n c := by obtain ⟨_, _, _, a, c, h, _⟩ := hv; exact ⟨a, c, h⟩
  have hm := hv.1
  unfold maxLen at hm
  by_cases h20 : 20 < n
  · have h20' : (20 : Int) < (n : Int) := by omega
    clear hv
    go_enter Tryz.func4, Tryz.ntmps4
    go_wp2_with fail
    refine HKN.out.mono ?_
    rintro e w1 ⟨rfl, b1⟩
    have B1 := Lib.hid b1
    clear b1
    go_wp2_with fail
    go_ret
    exact ⟨rfl, B1.out⟩
  · have h20' : (n : Int) ≤ 20 := by omega
    have hLn := hv.2.1
    have hi0 := new_inv 400 512 (by rw [new400.1]; omega) (by rw [new400.2]; omega)
    have hpl : ∀ q ∈ psF 1 L, q.1.length ≤ 3 ∧ q.2.1.length ≤ 255 := by
      intro q hq
      obtain ⟨j, q', hq', rfl⟩ := psF_mem hq
      have := (hv.2.2.1 q' hq').2
      refine ⟨keysF_len _ (keyF_mem _), ?_⟩
      simp only [valF_length]
      omega
    obtain ⟨s1, l1, hc1, hi1, hz1, hn1, ht1, hx1, ha1⟩ := commit_fits hi0 (by simp) ((psF 1 L).map recP) 290 (by
      intro r hr
      obtain ⟨q, hq, rfl⟩ := List.mem_map.1 hr
      have h1 := hpl q hq
      have := recP_len q (by omega) (by omega)
      omega) (by omega) (by rw [new400.1, new400.2, List.length_map, psF_length, hLn]; show 32 + n * (290 + 4) ≤ (400 / 2 - 0) * (512 - 16); omega)
    have hko := keyOk_batch 1 L hv.2.2.1
    have HI := Lib.hid (And.intro hc1 (And.intro hi1 (And.intro hpl (And.intro hko (And.intro hLn hv)))))
    clear hi0 hc1 hi1 hz1 hn1 ht1 hx1 ha1 hpl hko hLn hv
    go_enter Tryz.func4, Tryz.ntmps4
    go_wp2_with fail
    refine HKN.out.mono ?_
    rintro e w1 ⟨rfl, b1⟩
    have HN := Lib.hid (snew_any 400 512 (by rw [new400.1]; omega) (by rw [new400.2]; omega) b1)
    clear b1
    go_wp2_with fail
    refine HN.out.mono ?_
    rintro e w2 ⟨p, rfl, H2⟩
    go_wp2_with fail
    refine H2.out.mono ?_
    rintro e w3 ⟨sp, rfl, H3⟩
    obtain ⟨b, lp, um, g, m, hs⟩ := H3.out
    have hmm := @run_makeMap Tryz.prog
    have HP : Hid (Calls Tryz.prog 21 #[.int .i64 1, .slice a n c, .map (some w3.heap.size)] (w3.alloc (.map #[] 0)) fun e w' => ∃ a2 c2, e = .returned (.slice a2 n c2) ∧
        Hid (Calls Tryz.prog 20 #[.pointer (some ⟨sp, 0, none⟩), .slice a2 n c2] w' fun e w5 => e = .returned (.int .i64 0) ∧ Hid (∃ b', Sto w w5 sp b' lp um p g m s1 l1 (chg [] (psF 1 L)) ∧ SMap w5 w3.heap.size (chg [] (psF 1 L))))) := by
      obtain ⟨hc1, hi1, hpl, hko, hLn, hv⟩ := HI.out
      have hx : Ext (fun _ => False) w3 (w3.alloc (.map #[] 0)) := (Ext.refl _ w3).alloc _
      have hs4 := hs.new_ext hx
      have hv4 : PIn (w3.alloc (.map #[] 0)) (.slice a n c) n L := hv.ext hs4.sys.below
      refine (pairs_any (d := []) 1 (by omega) hv4 (by omega) (MapL.made w3 Tryz.prog 9) (by simp)).mono ?_
      rintro e w' ⟨a2, c2, rfl, h⟩
      obtain ⟨q1, q2, q3⟩ := h.out
      refine ⟨a2, c2, rfl, ?_⟩
      have hl := hs.sys.log.lt
      have hd := hs.sys.log.disk.lt
      have hlt := hs.lt
      have hb0 := hs.sys.below.size
      have hx4 : Ext (fun _ => False) w3 w' := hx.andThen q3 fun i hi hq => by omega
      have hs5 := hs.new_ext hx4
      refine (apply_any hs5 (Rd.of_own q1) (fun q hq => by have := hpl q hq; omega) (by omega) (by simp) rfl (by simp) (by simp) (Nat.zero_le _) (by simp; omega) hc1).mono ?_
      rintro e w5 ⟨rfl, b', h⟩
      refine ⟨rfl, b', h.out.1, MapL.kept q2 (h.out.2.2.block _ (MapL.lt q2) ?_)⟩
      omega
    clear hs H3
    go_wp2_with fail
    refine HP.out.mono ?_
    rintro e w4 ⟨a2, c2, rfl, H4⟩
    go_wp2_with fail
    refine H4.out.mono ?_
    rintro e w5 ⟨rfl, H5⟩
    obtain ⟨b', hs5, hm5⟩ := H5.out
    have HA : Hid (Calls Tryz.prog 22 #[.pointer (some ⟨sp, 0, none⟩), .map (some w3.heap.size)] w5 fun e w6 => e = .returned (.bool true) ∧ Hid (Calls Tryz.prog 19 #[.pointer (some ⟨p, 0, none⟩)] w6 fun e w7 => ∃ sp2, e = .returned (.tuple #[.pointer (some ⟨sp2, 0, none⟩), .int .i64 0]) ∧
        Hid (Calls Tryz.prog 22 #[.pointer (some ⟨sp2, 0, none⟩), .map (some w3.heap.size)] w7 fun e w8 => e = .returned (.bool true) ∧ Hid (Below w.heap.size w w8)))) := by
      obtain ⟨hc1, hi1, hpl, hko, hLn, hv⟩ := HI.out
      refine (alike_any hs5.st hs5.mp hm5 hko).mono ?_
      rintro e w6 ⟨rfl, x6⟩
      have hs6 := hs5.new_ext x6
      refine ⟨rfl, (sagain_any hs6 hi1 (fun q hq => by have := hpl q hq; omega) (by rw [psF_length]; omega)).mono ?_⟩
      rintro e w7 ⟨sp2, rfl, h7⟩
      obtain ⟨b2, lp2, um2, hs7, b7⟩ := h7.out
      have hm7 : SMap w7 w3.heap.size (chg [] (psF 1 L)) := MapL.kept hm5 (((Ext.of_below b7 (Nat.le_refl _) : Ext (fun _ => False) w6 w7).block _ (by have := MapL.lt hm5; have := x6.size; omega) id).trans (x6.block _ (MapL.lt hm5) id))
      refine ⟨sp2, rfl, (alike_any hs7.st hs7.mp hm7 hko).mono ?_⟩
      rintro e w8 ⟨rfl, x8⟩
      exact ⟨rfl, (hs7.new_ext x8).sys.below⟩
    clear hs5 hm5 H5 H4
    go_wp2_with fail
    refine HA.out.mono ?_
    rintro e w6 ⟨rfl, H6⟩
    go_wp2_with fail
    refine H6.out.mono ?_
    rintro e w7 ⟨sp2, rfl, H7⟩
    go_wp2_with fail
    refine H7.out.mono ?_
    rintro e w8 ⟨rfl, H8⟩
    go_wp2_with fail
    go_ret
    exact ⟨rfl, H8.out⟩
end Go.Proofs.YtekolejeliefdaaGreat
