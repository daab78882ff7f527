/- The law StorePrefix: keys are told by their beginning, in order of bytes, each once. -/
import Derived.Test.YtekolejeliefdaaGreatStS
import Derived.Deep.Slices
import Derived.Deep.Fields
import Derived.ChangeSame
import Derived.ChangeSlices
import Derived.ChangeMaps
set_option linter.unusedVariables false
set_option linter.unusedSimpArgs false
namespace Go.Proofs.YtekolejeliefdaaGreat
open Go.RowKit Go.ChangeShapes Go.WideShapes Go.Deep

/-- Texts that came in. -/
def TIn (w : World) (v : Value) (n : Nat) (xs : List (List UInt8)) : Prop :=
  n ≤ maxLen ∧ xs.length = n ∧ (∀ X ∈ xs, X.length ≤ maxLen) ∧ ∃ a c, v = .slice a n c ∧ (n = 0 ∨ ∃ x, a = some x ∧ x.block < w.heap.size ∧ ∀ j X, xs[j]? = some X → w.cell? (x.add j) = some (.string ⟨X.toArray⟩))
theorem listOf {α : Type} {P : Nat → α → Prop} : ∀ n : Nat, (∀ i, i < n → ∃ x, P i x) → ∃ L : List α, L.length = n ∧ ∀ i x, L[i]? = some x → P i x
  | 0, _ => ⟨[], rfl, fun i x h => by simp at h⟩
  | n + 1, h => by
    obtain ⟨L, h1, h2⟩ := listOf n fun i hi => h i (by omega)
    obtain ⟨x, hx⟩ := h n (by omega)
    refine ⟨L ++ [x], by simp [h1], fun i y hy => ?_⟩
    by_cases hi : i < L.length
    · rw [List.getElem?_append_left hi] at hy
      exact h2 i y hy
    · rw [List.getElem?_append_right (by omega)] at hy
      have hi2 : i - L.length = 0 := by
        rcases Nat.eq_zero_or_pos (i - L.length) with h' | h'
        · exact h'
        · rw [List.getElem?_eq_none (by simp; omega)] at hy
          cases hy
      rw [hi2] at hy
      simp at hy
      subst hy
      have : i = n := by omega
      rw [this]
      exact hx
set_option maxRecDepth 100000 in
theorem open_texts {H : Type} {enc : TypeId × Value → H} {w : World} {base : Nat} {held : Bool} {fuel : Nat} {a : Option Addr} {len cap : Nat} {x : DataW H × List MemPlace}
    (h : DataW.trod enc Tryz.prog w base (fun _ => true) held fuel 23 [.slice a len cap] = some x) : ∃ xs, TIn w (.slice a len cap) len xs := by
  rcases open_slice Tryz.underlying23 h with ⟨hcs, _⟩ | ⟨a', len', cap', m, n, D, Pl, hcs, hb, hl, hm, hmm, hx, hi⟩
  · simp only [List.cons.injEq, Value.slice.injEq, and_true] at hcs
    obtain ⟨rfl, rfl, rfl⟩ := hcs
    exact ⟨[], Nat.zero_le _, rfl, by simp, none, 0, rfl, .inl rfl⟩
  · simp only [List.cons.injEq, Value.slice.injEq, and_true] at hcs
    obtain ⟨rfl, rfl, rfl⟩ := hcs
    simp only [if_true] at hmm
    subst hmm
    have hC : (Tryz.prog).cellsOf 9 = 1 := by kernel_rfl
    have key : ∀ i, i < len → ∃ X : List UInt8, X.length ≤ maxLen ∧ w.cell? (a'.add i) = some (.string ⟨X.toArray⟩) := by
      intro i hil
      obtain ⟨cs', hc, ht'⟩ := hi i (by omega)
      rw [hC] at hc
      obtain ⟨_, hcl, hat⟩ := World.cells?_some hc
      have c0 := hat 0 (by omega)
      match cs', hcl with
      | [u0], _ =>
        obtain ⟨s, e0, _, hs⟩ := DataW.trod_string Tryz.underlying9 ht'
        obtain rfl : u0 = .string s := by simpa using e0
        have c0' : w.cell? (a'.add (i * 1)) = some (.string s) := c0
        rw [Nat.mul_one] at c0'
        refine ⟨s.data.toList, by simpa using hs, ?_⟩
        rw [c0']
    obtain ⟨L, hL, hLa⟩ := listOf len key
    refine ⟨L, by omega, hL, ?_, some a', m, rfl, ?_⟩
    · intro q hq
      obtain ⟨i, hi', he⟩ := List.getElem_of_mem hq
      exact (hLa i q (by rw [← he]; exact List.getElem?_eq_getElem hi')).1
    · by_cases h0 : len = 0
      · exact .inl h0
      · refine .inr ⟨a', rfl, ?_, fun i q hq => (hLa i q hq).2⟩
        obtain ⟨q, _, h1⟩ := key 0 (by omega)
        have h2 : (a'.add 0).block < w.heap.size := by
          rcases Nat.lt_or_ge (a'.add 0).block w.heap.size with h' | h'
          · exact h'
          · simp [World.cell?, Array.getElem?_eq_none h'] at h1
        rwa [ablk] at h2
theorem TIn.cells {w W : World} {v : Value} {n : Nat} {xs : List (List UInt8)} (h : TIn w v n xs) (hB : Below w.heap.size w W) {j : Nat} (hj : j < n) : ∃ x c X, v = .slice (some x) n c ∧ xs[j]? = some X ∧ W.cell? (x.add j) = some (.string ⟨X.toArray⟩) := by
  obtain ⟨h1, h2, h3, a, c, rfl, h4⟩ := h
  obtain ⟨x, rfl, hx, h4⟩ := h4.resolve_left (by omega)
  obtain ⟨X, hX⟩ : ∃ X, xs[j]? = some X := ⟨_, List.getElem?_eq_getElem (by omega)⟩
  refine ⟨x, c, X, rfl, hX, ?_⟩
  rw [hB.cell (p := x.add j) (by rw [ablk]; exact hx)]
  exact h4 j X hX

/-- A store to which the first j texts have been put. -/
structure Puts (w wr : World) (sp : Nat) (xs : List (List UInt8)) (j : Nat) : Prop where
  ex : ∃ b lp um p g m s l, Sto w wr sp b lp um p g m s l (chg [] ((xs.take j).map nokey)) ∧ Inv s l (((xs.take j).map nokey).map recP) ∧ s.size = 512 ∧ s.sure.length = 400 ∧ l.turn = 0 ∧ l.next = j ∧ l.at_ ≤ j
  few : ∀ x ∈ xs.take j, x.length ≤ 30
theorem Puts.below {w wr : World} {sp : Nat} {xs : List (List UInt8)} {j : Nat} (h : Puts w wr sp xs j) : Below w.heap.size w wr := by
  obtain ⟨b, lp, um, p, g, m, s, l, h1, _⟩ := h.ex
  exact h1.sys.below
/-- One text more. -/
theorem puts_next {w wr : World} {sp : Nat} {xs : List (List UInt8)} {j : Nat} (h : Puts w wr sp xs j) (hj : j ≤ 20) {x : List UInt8} (hx : xs[j]? = some x) (hl : x.length ≤ 30) :
    Calls Tryz.prog 20 #[.pointer (some ⟨sp, 0, none⟩), .slice (some ⟨wr.heap.size, 0, none⟩) 1 1] (wr.alloc (.cells #[.string ⟨x.toArray⟩, .string ⟨#[]⟩, .bool false] 54)) fun e w' => e = .returned (.int .i64 0) ∧ Hid (Puts w w' sp xs (j + 1)) := by
  obtain ⟨⟨b, lp, um, p, g, m, s, l, hs, hi, hz, hn, ht, hnx, ha⟩, hfew⟩ := h
  have hx2 : Ext (fun _ => False) wr (wr.alloc (.cells #[.string ⟨x.toArray⟩, .string ⟨#[]⟩, .bool false] 54)) := (Ext.refl _ wr).alloc _
  have htk : xs.take (j + 1) = xs.take j ++ [x] := by rw [List.take_add_one, hx]; rfl
  have hrl : ∀ r ∈ [nokey x].map recP, r.length ≤ 60 := by
    intro r hr
    rw [List.map_cons, List.map_nil, List.mem_singleton] at hr
    subst hr
    have h1 := recP_len (nokey x) (by show x.length ≤ 1000; omega) (by simp [nokey])
    have e1 : (nokey x).1.length = x.length := rfl
    have e2 : (nokey x).2.1.length = 0 := rfl
    omega
  have hrd : Rd (wr.alloc (.cells #[.string ⟨x.toArray⟩, .string ⟨#[]⟩, .bool false] 54)) 54 3 (.slice (some ⟨wr.heap.size, 0, none⟩) 1 1) 1 (spcells [nokey x]) :=
    ⟨rfl, by simp [maxLen], 1, .inr ⟨_, 0, rfl, Nat.le_refl _, .inr ⟨_, (0, 0), heap_alloc_new wr _, rfl⟩⟩⟩
  obtain ⟨s1, l1, hc1, hi1, hz1, hn1, ht1, hx1, ha1⟩ := commit_fits hi (by omega) ([nokey x].map recP) 60 hrl (by omega) (by rw [hz, hn]; show 32 + 1 * (60 + 4) ≤ (400 / 2 - l.at_) * (512 - 16); omega)
  have htake : takeF s ([nokey x].map recP) ≤ 1 := by
    unfold takeF
    have hb := body_len ([nokey x].map recP) 60 hrl
    have hb2 : (bodyF ([nokey x].map recP)).length ≤ 64 := hb
    rw [hz]
    exact secs_fit (by omega) (by omega)
  have hdl : (chg [] ((xs.take j).map nokey)).length ≤ 20 := by
    have h1 := chg_length [] ((xs.take j).map nokey)
    rw [List.length_map, List.length_take] at h1
    simp only [List.length_nil] at h1
    omega
  have hcount : l.count ≤ 20 := by
    rw [hi.count, List.length_map, List.length_map, List.length_take]
    omega
  refine (apply_any (hs.new_ext hx2) hrd (by
    intro q hq
    rw [List.mem_singleton.1 hq]
    exact ⟨by show x.length ≤ 1000; omega, by simp [nokey]⟩) (by omega) (by omega) hi.und (by omega) (by omega) (by omega) (by omega) hc1).mono ?_
  rintro e w' ⟨rfl, b', h⟩
  refine ⟨rfl, ⟨b', lp, um, p, g, m, s1, l1, ?_, ?_, hz1.trans hz, hn1.trans hn, ht1.trans ht, by rw [hx1, hnx], by omega⟩, ?_⟩
  · have e1 : chg [] ((xs.take (j + 1)).map nokey) = chg (chg [] ((xs.take j).map nokey)) [nokey x] := by rw [htk, List.map_append]; simp [chg]
    rw [e1]
    exact h.out.1
  · rw [htk, List.map_append, List.map_append]
    exact hi1
  · intro y hy
    rw [htk, List.mem_append, List.mem_singleton] at hy
    rcases hy with hy | rfl
    · exact hfew y hy
    · exact hl
theorem extr_take (x : List UInt8) (n : Nat) : ((ByteArray.mk x.toArray).extract 0 n).toList = x.take n := by
  rw [ByteArray.toList_eq, ByteArray.data_extract]
  simp

set_option maxRecDepth 100000 in
set_option maxHeartbeats 8000000 in
theorem prefix_any {w : World} {v : Value} {n : Nat} {xs : List (List UInt8)} {p : List UInt8} (hv : TIn w v n xs) (hp : p.length ≤ maxLen) :
    Calls Tryz.prog 5 #[v, .string ⟨p.toArray⟩] w fun e w' => e = .returned (.bool true) ∧ Below w.heap.size w w' := by
  have HKN := Lib.hid (known5 w)
  obtain ⟨a, c, rfl⟩ : ∃ a c, v = .slice a n c := by obtain ⟨_, _, _, a, c, h, _⟩ := hv; exact ⟨a, c, h⟩
  have hm := hv.1
  unfold maxLen at hm hp
  by_cases h20 : 20 < n
  · have h20' : (20 : Int) < (n : Int) := by omega
    clear hv
    go_enter Tryz.func5, Tryz.ntmps5
    go_wp2_with fail
    refine HKN.out.mono ?_
    rintro e w1 ⟨rfl, b1⟩
    have B1 := Lib.hid b1
    clear b1
    go_wp2_with fail
    go_ret
    exact ⟨rfl, B1.out⟩
  have h20' : (n : Int) ≤ 20 := by omega
  by_cases hp20 : 20 < p.length
  · have hp20' : (20 : Int) < (p.length : Int) := by omega
    clear hv
    go_enter Tryz.func5, Tryz.ntmps5
    go_wp2_with fail
    refine HKN.out.mono ?_
    rintro e w1 ⟨rfl, b1⟩
    have B1 := Lib.hid b1
    clear b1
    go_wp2_with fail
    go_ret
    exact ⟨rfl, B1.out⟩
  have hp20' : (p.length : Int) ≤ 20 := by omega
  have HV := Lib.hid hv
  clear hv hm hp
  go_enter Tryz.func5, Tryz.ntmps5
  go_wp2_with fail
  refine HKN.out.mono ?_
  rintro e w1 ⟨rfl, b1⟩
  have HN := Lib.hid (snew_any 400 512 (by rw [new400.1]; omega) (by rw [new400.2]; omega) b1)
  clear b1
  go_wp2_with fail
  refine HN.out.mono ?_
  rintro e w2 ⟨pd, rfl, H2⟩
  go_wp2_with fail
  refine H2.out.mono ?_
  rintro e w3 ⟨sp, rfl, H3⟩
  have HS0 : Hid (Puts w w3 sp xs 0) := by
    obtain ⟨b, lp, um, g, m, hs⟩ := H3.out
    have hi0 := new_inv 400 512 (by rw [new400.1]; omega) (by rw [new400.2]; omega)
    exact ⟨⟨b, lp, um, pd, g, m, _, _, hs, hi0, new400.2, new400.1, rfl, rfl, Nat.zero_le _⟩, by simp⟩
  go_wp2_with fail
  go_loopw [7] (fun iv wr => ∃ j : Nat, j ≤ n ∧ iv = .int .i64 j ∧ Hid (Puts w wr sp xs j)) (fun iv _ => n - (intOf iv).toNat)
  case atStart => exact ⟨0, by omega, rfl, HS0⟩
  case round =>
    obtain ⟨j, hj, rfl, hin⟩ := hrel
    by_cases hjn : j < n
    · obtain ⟨x, c', X, e1, hX, hc⟩ := HV.out.cells hin.out.below hjn
      simp only [Value.slice.injEq, true_and] at e1
      obtain ⟨rfl, rfl⟩ := e1
      have hXl : X.length ≤ 9223372036854775807 := by have := HV.out.2.2.1 X (List.mem_of_getElem? hX); unfold maxLen at this; omega
      by_cases h30 : 30 < X.length
      · have h30' : (30 : Int) < (X.length : Int) := by omega
        clear hX
        go_wp2_with fail
        go_ret
        exact ⟨rfl, hin.out.below⟩
      · have h30' : (X.length : Int) ≤ 30 := by omega
        have HA := Lib.hid (puts_next hin.out (by omega) hX (by omega))
        clear hX
        go_wp2_with fail
        refine HA.out.mono ?_
        rintro e w' ⟨rfl, H'⟩
        go_wp2_with fail
        exact ⟨⟨j + 1, by omega, by go_num, H'⟩, by simp [intOf]; omega⟩
    · have ej : j = n := by omega
      rw [ej] at hin ⊢
      clear ej hj hjn j
      obtain ⟨⟨b, lp, um, pb, g, m, s, l, hs, hi, _⟩, hfew⟩ := hin.out
      have hxn := HV.out.2.1
      have htk : xs.take n = xs := List.take_of_length_le (by omega)
      rw [htk] at hs hi hfew
      have hDn : ((chg [] (xs.map nokey)).map (·.1)).Nodup := puts_nodup xs
      have hDl : (chg [] (xs.map nokey)).length ≤ 20 := by
        have h1 := chg_length [] (xs.map nokey)
        rw [List.length_map] at h1
        simp only [List.length_nil] at h1
        omega
      have hDk : ∀ q ∈ chg [] (xs.map nokey), q.1.length ≤ 30 := by
        intro q hq
        have h1 : q.1 ∈ (chg [] (xs.map nokey)).map (·.1) := List.mem_map_of_mem hq
        have h2 := (mem_puts xs q.1 []).1 h1
        simp at h2
        exact hfew _ h2
      obtain ⟨D, hD⟩ : ∃ D, chg [] (xs.map nokey) = D := ⟨_, rfl⟩
      have HGE : Hid (∀ X ∈ xs, sget D X = some []) := by rw [← hD]; exact fun X hX => puts_get xs hX
      have HFA : Hid (firsts p xs n = ((skeys D).filter (spre p)).length) := by rw [← hD, ← hxn]; exact firsts_all p xs
      rw [hD] at hs hDn hDl hDk
      have hlt := skeys_lt hDn
      obtain ⟨M, hM⟩ : ∃ M, ((skeys D).filter (spre p)).length = M := ⟨_, rfl⟩
      have hM20 : M ≤ 20 := by
        have h1 := List.length_filter_le (spre p) (skeys D)
        rw [skeys_length] at h1
        omega
      have hM20i : (M : Int) ≤ 20 := by omega
      have HDK : Hid (∀ q ∈ D, q.1.length ≤ 30) := hDk
      have HKS : Hid (((skeys D).filter (spre p)).Pairwise (· < ·) ∧ (∀ y ∈ (skeys D).filter (spre p), spre p y = true ∧ y.length ≤ 30)) := by
        refine ⟨hlt.filter _, fun y hy => ?_⟩
        rw [List.mem_filter] at hy
        obtain ⟨v, hv⟩ := mem_skeys.1 hy.1
        exact ⟨hy.2, hDk _ hv⟩
      have HK : Hid (Calls Tryz.prog 23 #[.pointer (some ⟨sp, 0, none⟩), .string ⟨p.toArray⟩] wr fun e w' => ∃ a c, e = .returned (.slice a M c) ∧ Hid (Rd w' 9 1 (.slice a M c) M (((skeys D).filter (spre p)).map bstr) ∧ Sto w w' sp b lp um pb g m s l D)) := by
        refine (keys_any5 (p := p) hs.st hs.mp (by omega) (fun q hq => by have := hDk q hq; omega)).mono ?_
        rintro e w' ⟨v, rfl, q1, q2⟩
        rw [hM] at q1
        obtain ⟨a, c, rfl⟩ := (Rd.of_own q1).form
        exact ⟨a, c, rfl, Rd.of_own q1, hs.new_ext (Ext.of_below q2 (Nat.le_refl _))⟩
      rw [hM] at HFA
      have HM := Lib.hid (And.intro hM hxn)
      clear hs hi hfew htk hDn hDl hDk hD hlt hM hxn hin
      go_wp2_with fail
      refine HK.out.mono ?_
      rintro e w4 ⟨ak, ck, rfl, H4⟩
      go_wp2_with fail
      go_loopw [9] (fun iv wr => ∃ k : Nat, k ≤ M ∧ iv = .int .i64 k ∧ Hid (∃ m, wr = w4.drewN m)) (fun iv _ => M - (intOf iv).toNat)
      case atStart => exact ⟨0, by omega, rfl, 0, rfl⟩
      case round =>
        obtain ⟨k, hk, rfl, hin⟩ := hrel
        obtain ⟨m2, rfl⟩ := hin.out
        clear hin
        by_cases hkM : k < M
        · obtain ⟨b2, off2, y, rfl, hy, _, dy⟩ := H4.out.1.text_at hkM
          have hkM2 : (k : Int) < (M : Int) := by omega
          obtain ⟨hsy, hyl⟩ := HKS.out.2 y (List.mem_of_getElem? hy)
          have hsy2 := hsy
          unfold spre at hsy2
          simp only [Bool.and_eq_true, decide_eq_true_eq] at hsy2
          have hyl2 : (y.length : Int) ≤ 30 := by omega
          have hpy : ¬ (y.length : Int) < (p.length : Int) := by omega
          have hpy2 : (p.length : Int) ≤ (y.length : Int) := by omega
          have hE : (((ByteArray.mk y.toArray).extract 0 p.length).toList == p) = true := by rw [extr_take, hsy2.2]; simp
          obtain ⟨hs1, hs2⟩ := hsy2
          by_cases hk0 : k = 0
          · subst hk0
            rw [Nat.add_zero] at dy
            have hpy3 : ¬ y.length < p.length := by omega
            have hS0 : (w4.drewN m2).drew.cell? ⟨b2, off2, none⟩ = some (.string ⟨y.toArray⟩) ∧ True := ⟨dy, trivial⟩
            clear hy hs2 hsy
            go_wp2_with fail
            refine region_X (fun W => W.cell? ⟨b2, off2, none⟩ = some (.string ⟨y.toArray⟩) ∧ True) (by kernel_rfl) ?_
            simp only [List.length_cons, List.length_nil, Nat.reduceAdd]
            refine AnyX.take 0 rfl (by kernel_rfl) (fun _ _ _ h => h) hS0 rfl (by rintro W ⟨s0, _⟩; go_simp; rfl) ?_; simp only [Act.put, List.setIfInBounds_toArray, List.set_cons_succ, List.set_cons_zero]
            refine AnyX.take 1 rfl (by kernel_rfl) (fun _ _ _ h => h) hS0 rfl (by rintro W ⟨s0, _⟩; go_simp; rfl) ?_; simp only [Act.put, List.setIfInBounds_toArray, List.set_cons_succ, List.set_cons_zero]
            refine AnyX.take 2 rfl (by kernel_rfl) (fun _ _ _ h => h) hS0 rfl (by rintro W ⟨s0, _⟩; go_simp; rfl) ?_; simp only [Act.put, List.setIfInBounds_toArray, List.set_cons_succ, List.set_cons_zero]
            refine AnyX.take 3 rfl (by kernel_rfl) (fun _ _ _ h => h) hS0 rfl (by rintro W ⟨s0, _⟩; go_simp; rfl) ?_; simp only [Act.put, List.setIfInBounds_toArray, List.set_cons_succ, List.set_cons_zero]
            refine AnyX.take 4 rfl (by kernel_rfl) (fun _ _ _ h => h) hS0 rfl (by rintro W ⟨s0, _⟩; go_simp; rfl) ?_; simp only [Act.put, List.setIfInBounds_toArray, List.set_cons_succ, List.set_cons_zero]
            refine AnyX.take 5 rfl (by kernel_rfl) (fun _ _ _ h => h) hS0 rfl (by rintro W ⟨s0, _⟩; go_simp; rfl) ?_; simp only [Act.put, List.setIfInBounds_toArray, List.set_cons_succ, List.set_cons_zero]
            refine AnyX.take 6 rfl (by kernel_rfl) (fun _ _ _ h => h) hS0 rfl (by rintro W ⟨s0, _⟩; go_simp; rfl) ?_; simp only [Act.put, List.setIfInBounds_toArray, List.set_cons_succ, List.set_cons_zero]
            refine AnyX.take 7 rfl (by kernel_rfl) (fun _ _ _ h => h) hS0 rfl (by rintro W ⟨s0, _⟩; go_simp; rfl) ?_; simp only [Act.put, List.setIfInBounds_toArray, List.set_cons_succ, List.set_cons_zero]
            refine AnyX.take 8 rfl (by kernel_rfl) (fun _ _ _ h => h) hS0 rfl (by rintro W ⟨s0, _⟩; go_simp; rfl) ?_; simp only [Act.put, List.setIfInBounds_toArray, List.set_cons_succ, List.set_cons_zero]
            refine AnyX.takeW 9 rfl (by kernel_rfl) (fun _ _ _ h => h) hS0 rfl (by rintro W ⟨s0, _⟩; go_simp; rfl) ?_; simp only [Act.put, List.setIfInBounds_toArray, List.set_cons_succ, List.set_cons_zero]
            refine AnyX.takeW 10 rfl (by kernel_rfl) (fun _ _ _ h => h) hS0 rfl (by rintro W ⟨s0, _⟩; go_simp; rfl) ?_; simp only [Act.put, List.setIfInBounds_toArray, List.set_cons_succ, List.set_cons_zero]
            refine AnyX.takeW 11 rfl (by kernel_rfl) (fun _ _ _ h => h) hS0 rfl (by rintro W ⟨s0, _⟩; go_simp; rfl) ?_; simp only [Act.put, List.setIfInBounds_toArray, List.set_cons_succ, List.set_cons_zero]
            refine AnyX.takeW 12 rfl (by kernel_rfl) (fun _ _ _ h => h) hS0 rfl (by rintro W ⟨s0, _⟩; go_simp; rfl) ?_; simp only [Act.put, List.setIfInBounds_toArray, List.set_cons_succ, List.set_cons_zero]
            refine AnyX.takeW 13 rfl (by kernel_rfl) (fun _ _ _ h => h) hS0 rfl (by rintro W ⟨s0, _⟩; go_simp; rfl) ?_; simp only [Act.put, List.setIfInBounds_toArray, List.set_cons_succ, List.set_cons_zero]
            refine AnyX.takeW 14 rfl (by kernel_rfl) (fun _ _ _ h => h) hS0 rfl (by rintro W ⟨s0, _⟩; go_simp; rfl) ?_; simp only [Act.put, List.setIfInBounds_toArray, List.set_cons_succ, List.set_cons_zero]
            refine AnyX.takeW 15 rfl (by kernel_rfl) (fun _ _ _ h => h) hS0 rfl (by rintro W ⟨s0, _⟩; go_simp; rfl) ?_; simp only [Act.put, List.setIfInBounds_toArray, List.set_cons_succ, List.set_cons_zero]
            refine AnyX.takeW 16 rfl (by kernel_rfl) (fun _ _ _ h => h) hS0 rfl (by rintro W ⟨s0, _⟩; go_simp; rfl) ?_; simp only [Act.put, List.setIfInBounds_toArray, List.set_cons_succ, List.set_cons_zero]
            refine AnyX.takeW 17 rfl (by kernel_rfl) (fun _ _ _ h => h) hS0 rfl (by rintro W ⟨s0, _⟩; go_simp; rfl) ?_; simp only [Act.put, List.setIfInBounds_toArray, List.set_cons_succ, List.set_cons_zero]
            refine AnyX.take 18 rfl (by kernel_rfl) (fun _ _ _ h => h) hS0 rfl (by rintro W ⟨s0, _⟩; go_simp; rfl) ?_; simp only [Act.put, List.setIfInBounds_toArray, List.set_cons_succ, List.set_cons_zero]
            refine AnyX.take 19 rfl (by kernel_rfl) (fun _ _ _ h => h) hS0 rfl (by rintro W ⟨s0, _⟩; go_simp; rfl) ?_; simp only [Act.put, List.setIfInBounds_toArray, List.set_cons_succ, List.set_cons_zero]
            refine AnyX.takeW 20 rfl (by kernel_rfl) (fun _ _ _ h => h) hS0 rfl (by rintro W ⟨s0, _⟩; go_simp; rfl) ?_; simp only [Act.put, List.setIfInBounds_toArray, List.set_cons_succ, List.set_cons_zero]
            refine AnyX.takeW 21 rfl (by kernel_rfl) (fun _ _ _ h => h) hS0 rfl (by rintro W ⟨s0, _⟩; go_simp; rfl) ?_; simp only [Act.put, List.setIfInBounds_toArray, List.set_cons_succ, List.set_cons_zero]
            refine AnyX.takeW 22 rfl (by kernel_rfl) (fun _ _ _ h => h) hS0 rfl (by rintro W ⟨s0, _⟩; go_simp; rfl) ?_; simp only [Act.put, List.setIfInBounds_toArray, List.set_cons_succ, List.set_cons_zero]
            refine AnyX.takeU 23 rfl (by kernel_rfl) (fun _ _ _ h => h) hS0 rfl ?_; simp only [Act.put, List.setIfInBounds_toArray, List.set_cons_succ, List.set_cons_zero]
            refine AnyX.takeU 24 rfl (by kernel_rfl) (fun _ _ _ h => h) hS0 rfl ?_; simp only [Act.put, List.setIfInBounds_toArray, List.set_cons_succ, List.set_cons_zero]
            refine AnyX.takeU 25 rfl (by kernel_rfl) (fun _ _ _ h => h) hS0 rfl ?_; simp only [Act.put, List.setIfInBounds_toArray, List.set_cons_succ, List.set_cons_zero]
            refine AnyX.takeU 26 rfl (by kernel_rfl) (fun _ _ _ h => h) hS0 rfl ?_; simp only [Act.put, List.setIfInBounds_toArray, List.set_cons_succ, List.set_cons_zero]
            refine AnyX.takeU 27 rfl (by kernel_rfl) (fun _ _ _ h => h) hS0 rfl ?_; simp only [Act.put, List.setIfInBounds_toArray, List.set_cons_succ, List.set_cons_zero]
            refine AnyX.takeU 28 rfl (by kernel_rfl) (fun _ _ _ h => h) hS0 rfl ?_; simp only [Act.put, List.setIfInBounds_toArray, List.set_cons_succ, List.set_cons_zero]
            refine AnyX.takeU 29 rfl (by kernel_rfl) (fun _ _ _ h => h) hS0 rfl ?_; simp only [Act.put, List.setIfInBounds_toArray, List.set_cons_succ, List.set_cons_zero]
            refine AnyX.takeU 30 rfl (by kernel_rfl) (fun _ _ _ h => h) hS0 rfl ?_; simp only [Act.put, List.setIfInBounds_toArray, List.set_cons_succ, List.set_cons_zero]
            refine AnyX.takeU 31 rfl (by kernel_rfl) (fun _ _ _ h => h) hS0 rfl ?_; simp only [Act.put, List.setIfInBounds_toArray, List.set_cons_succ, List.set_cons_zero]
            refine AnyX.takeU 32 rfl (by kernel_rfl) (fun _ _ _ h => h) hS0 rfl ?_; simp only [Act.put, List.setIfInBounds_toArray, List.set_cons_succ, List.set_cons_zero]
            refine AnyX.takeW 33 rfl (by kernel_rfl) (fun _ _ _ h => h) hS0 rfl (by rintro W ⟨s0, _⟩; go_simp; rfl) ?_; simp only [Act.put, List.setIfInBounds_toArray, List.set_cons_succ, List.set_cons_zero]
            refine AnyX.end_ 34 rfl (by kernel_rfl) (by kernel_rfl) (by kernel_rfl) rfl ?_
            go_wp2_with fail
            go_roundw
            case rel => exact ⟨1, by omega, by go_num, m2 + 1, rfl⟩
            case measure => simp [intOf]; omega
          · obtain ⟨j, hjk⟩ : ∃ j, j + 1 = k := ⟨k - 1, by omega⟩
            obtain ⟨b1, off1, x, e1, hx, _, dx⟩ := H4.out.1.text_at (k := j) (by omega)
            simp only [Option.some.injEq, Addr.mk.injEq, and_true] at e1
            obtain ⟨rfl, rfl⟩ := e1
            have hxy : x < y := by
              have hp := List.pairwise_iff_getElem.1 HKS.out.1 j k (by have := HM.out.1; omega) (by have := HM.out.1; omega) (by omega)
              rw [List.getElem?_eq_some_iff] at hx hy
              obtain ⟨_, rfl⟩ := hx
              obtain ⟨_, rfl⟩ := hy
              exact hp
            have hkj : (k : Int) - 1 = (j : Int) := by omega
            have hjM : j < M := by omega
            have hkw : IntKind.i64.wrap (j : Int) = (j : Int) := IntWalk.i64_in _ (by omega)
            have hgeq := fun W => run_geq_str (P := Tryz.prog) 9 hxy W
            have hk1 : (0 : Int) < (k : Int) := by omega
            have hk2 : 0 < k := by omega
            clear hx hy hjk hxy hs2 hsy hk0
            go_wp2_with fail
            go_quiet (fail)
            go_wp2_with fail
            go_roundw
            case rel => exact ⟨k + 1, by omega, by go_num, _, rfl⟩
            case measure => simp [intOf]; omega
        · have ek : k = M := by omega
          rw [ek]
          have hkM2 : ¬ (M : Int) < (M : Int) := by omega
          have HS4 : Hid (Sto w (w4.drewN m2) sp b lp um pb g m s l D) := H4.out.2.new_ext ((Ext.refl _ w4).drewN m2)
          obtain ⟨W4, hW4⟩ : ∃ W4, w4.drewN m2 = W4 := ⟨_, rfl⟩
          rw [hW4] at HS4 ⊢
          clear hW4 H4 ek hkM hk
          have HPR : Hid (∀ X ∈ xs, ∀ m, Calls Tryz.prog 24 #[.pointer (some ⟨sp, 0, none⟩), .string ⟨X.toArray⟩] (W4.drewN m) fun e w' => e = .returned (.tuple #[.string ⟨#[]⟩, .bool true]) ∧ w' = W4.drewN m) := by
            intro X hX m
            have hs := HS4.out.new_ext ((Ext.refl _ W4).drewN m)
            have hl := HGE.out X hX
            have := get_any5 (k := X) hs.st hs.mp (by
              have h1 := (mem_puts xs X []).2 (.inl hX)
              obtain ⟨x, c, e, hh⟩ := HV.out.2.2.2
              have h2 := sget_mem hl
              exact Nat.le_trans (HDK.out _ h2) (by omega))
            rw [hl] at this
            exact this
          go_wp2_with fail
          go_loopw [10, 11, 12, 13, 14, 15] (fun nv iv _ _ _ _ wr => ∃ i : Nat, i ≤ n ∧ iv = .int .i64 i ∧ nv = .int .i64 (firsts p xs i) ∧ Hid (∃ m, wr = W4.drewN m)) (fun _ iv _ _ _ _ _ => n - (intOf iv).toNat)
          case atStart => exact ⟨0, by omega, rfl, rfl, 0, rfl⟩
          case round =>
            obtain ⟨i, hi, rfl, rfl, hin⟩ := hrel
            obtain ⟨m3, rfl⟩ := hin.out
            clear hin
            by_cases hin2 : i < n
            · have hbW : ∀ m, Below w.heap.size w (W4.drewN m) := fun m => (HS4.out.new_ext ((Ext.refl _ W4).drewN m)).sys.below
              obtain ⟨x0, c0, X, e1, hX, _⟩ := HV.out.cells (hbW 0) hin2
              simp only [Value.slice.injEq, true_and] at e1
              obtain ⟨rfl, rfl⟩ := e1
              have dX : ∀ m, (W4.drewN m).cell? (x0.add i) = some (.string ⟨X.toArray⟩) := by
                intro m
                obtain ⟨x1, c1, X', e1, hX', hc⟩ := HV.out.cells (hbW m) hin2
                simp only [Value.slice.injEq, true_and, Option.some.injEq] at e1
                obtain ⟨rfl, _⟩ := e1
                rw [hX] at hX'
                cases hX'
                exact hc
              have dY : ∀ j Y, xs[j]? = some Y → ∀ m, (W4.drewN m).cell? (x0.add j) = some (.string ⟨Y.toArray⟩) := by
                intro j Y hY m
                have hjn : j < n := by have := HM.out.2; have := (List.getElem?_eq_some_iff.1 hY).1; omega
                obtain ⟨x1, c1, X', e1, hX', hc⟩ := HV.out.cells (hbW m) hjn
                simp only [Value.slice.injEq, true_and, Option.some.injEq] at e1
                obtain ⟨rfl, _⟩ := e1
                rw [hY] at hX'
                cases hX'
                exact hc
              have hmX : X ∈ xs := List.mem_of_getElem? hX
              have hXl : (X.length : Int) ≤ 30 := by have := HDK.out _ (sget_mem (HGE.out X hmX)); simp only at this; omega
              have HG := Lib.hid (HPR.out X hmX)
              have HDY := Lib.hid dY
              have hfs := firsts_succ p xs i X hX
              have hfl := firsts_le p xs i
              obtain ⟨F, hF⟩ : ∃ F, firsts p xs i = F := ⟨_, rfl⟩
              rw [hF] at hfs hfl ⊢
              have HFS := Lib.hid hfs
              have hE : (((ByteArray.mk X.toArray).extract 0 p.length).toList == p) = decide (X.take p.length = p) := by
                rw [extr_take]
                by_cases h : X.take p.length = p <;> simp [h]
              have hin3 : (i : Int) < (n : Int) := by omega
              have HC : (p.length ≤ X.length ∧ (((ByteArray.mk X.toArray).extract 0 p.length).toList == p) = true ∧ spre p X = true) ∨ (p.length ≤ X.length ∧ (((ByteArray.mk X.toArray).extract 0 p.length).toList == p) = false ∧ spre p X = false) ∨ (X.length < p.length ∧ ¬ p.length ≤ X.length ∧ spre p X = false) := by
                by_cases h1 : p.length ≤ X.length
                · by_cases h2 : X.take p.length = p
                  · exact .inl ⟨h1, hE.trans (decide_eq_true h2), by unfold spre; simp [h1, h2]⟩
                  · exact .inr (.inl ⟨h1, hE.trans (decide_eq_false h2), by unfold spre; simp [h2]⟩)
                · exact .inr (.inr ⟨by omega, h1, by unfold spre; simp [h1]⟩)
              have hpl1 : (p.length : Int) ≤ 20 := hp20'
              clear hX hbW dY hmX hfs hF hE
              rcases HC with ⟨h1, hE2, hsp⟩ | ⟨h1, hE2, hsp⟩ | ⟨h1, hE2, hsp⟩
              all_goals
                have HSP := Lib.hid hsp
                clear hsp
                go_wp2_with fail
                clear hE2 h1
                go_loopw [12, 13] (fun fv jv wr => ∃ j : Nat, j ≤ i ∧ jv = .int .i64 j ∧ fv = .bool (spre p X && !(xs.take j).contains X) ∧ Hid (∃ m, wr = W4.drewN m)) (fun _ jv _ => i - (intOf jv).toNat)
                case atStart => exact ⟨0, by omega, rfl, by rw [HSP.out]; rfl, m3, rfl⟩
                case round =>
                  obtain ⟨j, hj, rfl, rfl, hin⟩ := hrel
                  obtain ⟨m4, rfl⟩ := hin.out
                  clear hin
                  by_cases hji : j < i
                  · obtain ⟨Y, hY⟩ : ∃ Y, xs[j]? = some Y := ⟨_, List.getElem?_eq_getElem (by have := HM.out.2; omega)⟩
                    have dYj := HDY.out j Y hY
                    have hYl : (Y.length : Int) ≤ 30 := by have := HDK.out _ (sget_mem (HGE.out Y (List.mem_of_getElem? hY))); simp only at this; omega
                    have hct : (xs.take (j + 1)).contains X = ((xs.take j).contains X || decide (X = Y)) := by
                      rw [List.take_add_one, hY]
                      simp [List.contains_eq_mem]
                    have HCT := Lib.hid hct
                    have hjn : j < n := by omega
                    have hji2 : (j : Int) < (i : Int) := by omega
                    clear hct hY
                    cases hb : (spre p X && !(xs.take j).contains X) with
                    | true =>
                      have HB := Lib.hid hb
                      clear hb
                      by_cases hYX : Y = X
                      · have HYX := Lib.hid hYX
                        subst hYX
                        go_wp2_with fail
                        go_quiet (fail)
                        go_wp2_with fail
                        go_roundw
                        case rel =>
                          refine ⟨j + 1, by omega, by go_num, ?_, _, rfl⟩
                          rw [HCT.out]
                          simp
                        case measure => simp [intOf]; omega
                      · have hne : (Y == X) = false := by simpa using hYX
                        have HYX : Hid (¬ X = Y) := fun e => hYX e.symm
                        go_wp2_with fail
                        go_quiet (fail)
                        go_wp2_with fail
                        go_roundw
                        case rel =>
                          refine ⟨j + 1, by omega, by go_num, ?_, _, rfl⟩
                          rw [HCT.out, decide_eq_false HYX.out, Bool.or_false, HB.out]
                        case measure => simp [intOf]; omega
                    | false =>
                      have HB := Lib.hid hb
                      clear hb
                      go_wp2_with fail
                      go_quiet (fail)
                      go_wp2_with fail
                      go_roundw
                      case rel =>
                        refine ⟨j + 1, by omega, by go_num, ?_, _, rfl⟩
                        rw [HCT.out]
                        have h1 := HB.out
                        revert h1
                        cases spre p X <;> cases (xs.take j).contains X <;> simp
                      case measure => simp [intOf]; omega
                  · have ej : j = i := by omega
                    rw [ej]
                    have hji2 : ¬ (i : Int) < (i : Int) := by omega
                    clear ej hji hj
                    cases hb : (spre p X && !(xs.take i).contains X) with
                    | true =>
                      have HB := Lib.hid hb
                      clear hb
                      go_wp2_with fail
                      refine (HG.out m4).mono ?_
                      rintro e w' ⟨rfl, rfl⟩
                      go_wp2_with fail
                      refine ⟨⟨i + 1, by omega, by go_num, ?_, m4, rfl⟩, by simp [intOf]; omega⟩
                      rw [HFS.out, HB.out]
                      rfl
                    | false =>
                      have HB := Lib.hid hb
                      clear hb
                      go_wp2_with fail
                      refine (HG.out m4).mono ?_
                      rintro e w' ⟨rfl, rfl⟩
                      go_wp2_with fail
                      refine ⟨⟨i + 1, by omega, by go_num, ?_, m4, rfl⟩, by simp [intOf]; omega⟩
                      rw [HFS.out, HB.out]
                      rfl
            · have ei : i = n := by omega
              have hfa := HFA.out
              rw [ei, hfa]
              have hbW := (HS4.out.new_ext ((Ext.refl _ W4).drewN m3)).sys.below
              have HBW := Lib.hid hbW
              clear hbW ei hin2 hi hfa
              go_wp2_with fail
              go_ret
              exact ⟨rfl, HBW.out⟩
end Go.Proofs.YtekolejeliefdaaGreat
