/- The store's statements: does a store tell just a map's keys and values? -/
import Derived.Test.YtekolejeliefdaaGreatStP
import Derived.Sort.Walk0
set_option linter.unusedVariables false
set_option linter.unusedSimpArgs false
namespace Go.Proofs.YtekolejeliefdaaGreat
open Go.RowKit

/-- Keys among the seven, each once, values that a batch may set. -/
structure KeyOk (d : SM) : Prop where
  nodup : (d.map (·.1)).Nodup
  seven : ∀ q ∈ d, q.1 ∈ keysF ∧ q.2.length ≤ 255
theorem keysF_len : ∀ x ∈ keysF, x.length ≤ 3 := by decide
section
variable {d : SM}
theorem KeyOk.len (h : KeyOk d) : d.length ≤ 7 := by
  have h1 := held_size h.nodup keysF_nodup (fun k hk => by obtain ⟨q, hq, rfl⟩ := List.mem_map.1 hk; exact (h.seven q hq).1)
  have h2 := List.length_filter_le (fun k => (sget d k).isSome) keysF
  rw [h1.1] at h2
  exact h2
theorem ssize_le {d : SM} (h : ∀ q ∈ d, q.1.length + q.2.length ≤ 300) : ssize d ≤ 300 * d.length := by
  induction d with
  | nil => simp [ssize]
  | cons p d ih =>
    rw [ssize_cons, List.length_cons]
    have h1 := h p List.mem_cons_self
    have h2 := ih fun q hq => h q (List.mem_cons_of_mem _ hq)
    omega
theorem KeyOk.size (h : KeyOk d) : ssize d ≤ 2100 := by
  have h1 := ssize_le (d := d) fun q hq => by
    have := keysF_len _ (h.seven q hq).1
    have := (h.seven q hq).2
    omega
  have := h.len
  omega
/-- What of the first k keys is held: how many, how long. -/
def heldN (d : SM) (k : Nat) : Nat := ((keysF.take k).filter (fun k => (sget d k).isSome)).length
def heldZ (d : SM) (k : Nat) : Nat := (((keysF.take k).filter (fun k => (sget d k).isSome)).map (szOf d)).sum
theorem held_succ {k : Nat} {x : List UInt8} (h : keysF[k]? = some x) : heldN d (k + 1) = heldN d k + (if (sget d x).isSome then 1 else 0) ∧ heldZ d (k + 1) = heldZ d k + (if (sget d x).isSome then szOf d x else 0) := by
  unfold heldN heldZ
  rw [filter_take_succ _ _ _ _ h]
  split <;> simp
theorem KeyOk.all (h : KeyOk d) : heldN d 7 = d.length ∧ heldZ d 7 = ssize d := by
  have h1 := held_size h.nodup keysF_nodup (fun k hk => by obtain ⟨q, hq, rfl⟩ := List.mem_map.1 hk; exact (h.seven q hq).1)
  exact h1
theorem heldN_le (k : Nat) : heldN d k ≤ k := Nat.le_trans (List.length_filter_le _ _) (by rw [List.length_take]; omega)
theorem heldZ_le (h : KeyOk d) (k : Nat) : heldZ d k ≤ 300 * k := by
  have h1 : ∀ l : List (List UInt8), (∀ x ∈ l, szOf d x ≤ 300) → (l.map (szOf d)).sum ≤ 300 * l.length := by
    intro l hl
    induction l with
    | nil => simp
    | cons x l ih =>
      have := hl x List.mem_cons_self
      have := ih fun y hy => hl y (List.mem_cons_of_mem _ hy)
      simp only [List.map_cons, List.sum_cons, List.length_cons]
      omega
  have h2 := h1 ((keysF.take k).filter (fun k => (sget d k).isSome)) fun x hx => by
    rw [List.mem_filter] at hx
    obtain ⟨v, hv⟩ := Option.isSome_iff_exists.1 hx.2
    have h3 := (h.seven _ (sget_mem hv))
    have h4 := keysF_len x h3.1
    unfold szOf
    rw [hv]
    simp only [Option.getD_some] at *
    omega
  have h3 := heldN_le (d := d) k
  unfold heldN at h3
  unfold heldZ
  omega
end
/-- How many of the first j texts stand below a/. -/
def belowN (l : List (List UInt8)) (j : Nat) : Nat := ((l.take j).filter (spre [97, 47])).length
theorem belowN_succ {l : List (List UInt8)} {j : Nat} {x : List UInt8} (h : l[j]? = some x) : belowN l (j + 1) = belowN l j + (if spre [97, 47] x then 1 else 0) := by
  unfold belowN
  rw [filter_take_succ _ _ _ _ h]
  split <;> simp
theorem belowN_le (l : List (List UInt8)) (j : Nat) : belowN l j ≤ j := Nat.le_trans (List.length_filter_le _ _) (by rw [List.length_take]; omega)
theorem spre_nil (x : List UInt8) : spre [] x = true := by simp [spre]
theorem skeys_filter_nil (d : SM) : (skeys d).filter (spre []) = skeys d := by
  rw [List.filter_eq_self]
  intro x _
  exact spre_nil x

theorem run_geq_str {P : Program} (e : TypeId) {x y : List UInt8} (h : x < y) (W : World) : (Go.binOp .geq e (.string ⟨x.toArray⟩) (.string ⟨y.toArray⟩)).run P W = .ok (.bool false) W := by
  simp [Go.binOp, Op.stringOp, Proofs.bytesLess_eq, h]
set_option maxRecDepth 100000 in
set_option maxHeartbeats 4000000 in
theorem alike_any {w : World} {sp b mb : Nat} {lp : Value} {down : Bool} {d : SM} (hs : w.heap[sp]? = some (.cells #[lp, .map (some b), .bool down] 119 (0, 0))) (h : SMap w b d) (h2 : SMap w mb d) (hk : KeyOk d) :
    Calls Tryz.prog 22 #[.pointer (some ⟨sp, 0, none⟩), .map (some mb)] w fun e w' => e = .returned (.bool true) ∧ Ext (fun _ => False) w w' := by
  have keep : ∀ {W}, Ext (fun _ => False) w W → W.heap[sp]? = some (.cells #[lp, .map (some b), .bool down] 119 (0, 0)) ∧ SMap W b d ∧ SMap W mb d := fun {W} hx =>
    ⟨(hx.block _ (lt_of_heap hs) id).trans hs, MapL.kept h (hx.block _ (MapL.lt h) id), MapL.kept h2 (hx.block _ (MapL.lt h2) id)⟩
  have hlen := hk.len
  have HK := Lib.hid (fun (k : Nat) (x : List UInt8) (hx : keysF[k]? = some x) W => (show Calls Tryz.prog 58 #[.int .u8 k] W fun e w' => e = .returned (.string ⟨x.toArray⟩) ∧ Ext (fun _ => False) W w' by
    have hk7 : k < 7 := (List.getElem?_eq_some_iff.1 hx).1
    have := key_any k (by omega) W
    have e1 : keyF k = x := by unfold keyF; rw [Nat.mod_eq_of_lt hk7, hx]; rfl
    rw [e1] at this
    exact this))
  have HG := Lib.hid (fun (x : List UInt8) (hx : x ∈ keysF) W (he : Ext (fun _ => False) w W) => get_any5 (k := x) (keep he).1 (keep he).2.1 (by have := keysF_len x hx; omega))
  have HL := Lib.hid (fun (x : List UInt8) (hx : x ∈ keysF) W (he : Ext (fun _ => False) w W) => SMap.look (keep he).2.2 (k := x) (by have := keysF_len x hx; omega) W rfl)
  have HS := Lib.hid (fun W (he : Ext (fun _ => False) w W) => size_any5 (keep he).1 (keep he).2.1 hk.nodup (by have := hk.size; omega))
  have HY := Lib.hid (fun (p : List UInt8) W (he : Ext (fun _ => False) w W) => (show Calls Tryz.prog 23 #[.pointer (some ⟨sp, 0, none⟩), .string ⟨p.toArray⟩] W fun e w' => ∃ a c, e = .returned (.slice a ((skeys d).filter (spre p)).length c) ∧ Hid (Rd w' 9 1 (.slice a ((skeys d).filter (spre p)).length c) ((skeys d).filter (spre p)).length (((skeys d).filter (spre p)).map bstr) ∧ Ext (fun _ => False) W w') by
    refine (keys_any5 (p := p) (keep he).1 (keep he).2.1 (by omega) (fun q hq => by have := keysF_len _ (hk.seven q hq).1; omega)).mono ?_
    rintro e w' ⟨v, rfl, q1, q2⟩
    obtain ⟨a, c, rfl⟩ := (Rd.of_own q1).form
    exact ⟨a, c, rfl, Rd.of_own q1, Ext.of_below q2 (Nat.le_refl _)⟩))
  have HB := Lib.hid (And.intro hk (And.intro hk.all (skeys_lt hk.nodup)))
  clear keep hs h h2 hk
  go_enter Tryz.func22, Tryz.ntmps22
  go_wp2_with fail
  go_loopw [5, 6, 7, 8, 9, 10, 11] (fun nv tv kv _ _ _ _ wr => ∃ k : Nat, k ≤ 7 ∧ kv = .int .u8 k ∧ nv = .int .i64 (heldN d k) ∧ tv = .int .i64 (heldZ d k) ∧ Hid (Ext (fun _ => False) w wr)) (fun _ _ kv _ _ _ _ _ => 7 - (intOf kv).toNat)
  case atStart => exact ⟨0, by omega, rfl, rfl, rfl, Ext.refl _ _⟩
  case round =>
    obtain ⟨k, hk7, rfl, rfl, rfl, hin⟩ := hrel
    by_cases hlt : k < 7
    · obtain ⟨x, hx⟩ : ∃ x, keysF[k]? = some x := ⟨_, List.getElem?_eq_getElem (by simpa [keysF] using hlt)⟩
      have hmem : x ∈ keysF := List.mem_of_getElem? hx
      have hx3 := keysF_len x hmem
      have hsu := held_succ (d := d) hx
      have hnl := heldN_le (d := d) k
      have hzl := heldZ_le HB.out.1 k
      have HX := Lib.hid (And.intro hx (And.intro hmem hsu))
      obtain ⟨nn, hnn⟩ : ∃ nn, heldN d k = nn := ⟨_, rfl⟩
      obtain ⟨zz, hzz⟩ : ∃ zz, heldZ d k = zz := ⟨_, rfl⟩
      rw [hnn] at hnl
      rw [hzz] at hzl
      have hsu1 : heldN d (k + 1) = nn + (if (sget d x).isSome then 1 else 0) ∧ heldZ d (k + 1) = zz + (if (sget d x).isSome then szOf d x else 0) := by rw [← hnn, ← hzz]; exact hsu
      have HSU := Lib.hid hsu1
      rw [hnn, hzz]
      clear hx hmem hsu hsu1 hnn hzz
      go_wp2_with fail
      refine (HK.out k x HX.out.1 _).mono ?_
      rintro e w1 ⟨rfl, x1⟩
      have H1 := Lib.hid (hin.out.trans x1)
      clear x1
      cases hg : sget d x with
      | none =>
        go_wp2_with fail
        refine (HG.out x HX.out.2.1 _ H1.out).mono ?_
        rintro e w1' ⟨rfl, rfl⟩
        rw [hg]
        go_wp2_with fail
        refine (HK.out k x HX.out.1 _).mono ?_
        rintro e w2 ⟨rfl, x2⟩
        have H2 := Lib.hid (H1.out.trans x2)
        clear x2
        have hl := HL.out x HX.out.2.1 _ H2.out
        rw [hg] at hl
        go_wp2_with fail
        refine ⟨⟨k + 1, by omega, by go_num, ?_, ?_, H2⟩, by simp [intOf]; omega⟩
        · rw [HSU.out.1, hg]; rfl
        · rw [HSU.out.2, hg]; rfl
      | some v =>
        have hv : v.length ≤ 255 := (HB.out.1.seven _ (sget_mem hg)).2
        go_wp2_with fail
        refine (HG.out x HX.out.2.1 _ H1.out).mono ?_
        rintro e w1' ⟨rfl, rfl⟩
        rw [hg]
        go_wp2_with fail
        refine (HK.out k x HX.out.1 _).mono ?_
        rintro e w2 ⟨rfl, x2⟩
        have H2 := Lib.hid (H1.out.trans x2)
        clear x2
        have hl := HL.out x HX.out.2.1 _ H2.out
        rw [hg] at hl
        go_wp2_with fail
        refine (HK.out k x HX.out.1 _).mono ?_
        rintro e w3 ⟨rfl, x3⟩
        have H3 := Lib.hid (H2.out.trans x3)
        clear x3 hl
        go_wp2_with fail
        refine ⟨⟨k + 1, by omega, by go_num, ?_, ?_, H3⟩, by simp [intOf]; omega⟩
        · rw [HSU.out.1, hg]; simp
        · rw [HSU.out.2, hg]; simp [szOf, hg]
    · obtain rfl : k = 7 := by omega
      obtain ⟨N, hN⟩ : ∃ N, d.length = N := ⟨_, rfl⟩
      have e1 : heldN d 7 = N := HB.out.2.1.1.trans hN
      have e2 : heldZ d 7 = ssize d := HB.out.2.1.2
      have hZ := HB.out.1.size
      have HY0 : Hid (∀ W, Ext (fun _ => False) w W → Calls Tryz.prog 23 #[.pointer (some ⟨sp, 0, none⟩), .string ⟨#[]⟩] W fun e w' => ∃ a c, e = .returned (.slice a N c) ∧ Hid (Rd w' 9 1 (.slice a N c) N ((skeys d).map bstr) ∧ Ext (fun _ => False) W w')) := by
        intro W he
        have := HY.out [] W he
        rw [skeys_filter_nil, skeys_length, hN] at this
        exact this
      have hN7 : N ≤ 7 := by omega
      have hN7i : (N : Int) ≤ 7 := by omega
      have HN := Lib.hid (And.intro hN (skeys_length d))
      rw [e1, e2]
      clear e1 e2 hN hlt hk7
      go_wp2_with fail
      refine (HY0.out _ hin.out).mono ?_
      rintro e w3 ⟨a, c, rfl, H3⟩
      have HX3 := Lib.hid (hin.out.trans H3.out.2)
      clear hin
      go_wp2_with fail
      go_loopw [13] (fun iv wr => ∃ k : Nat, 1 ≤ k ∧ k ≤ 8 ∧ iv = .int .i64 k ∧ Hid (∃ m, wr = w3.drewN m)) (fun iv _ => 8 - (intOf iv).toNat)
      case atStart => exact ⟨1, by omega, by omega, rfl, 0, rfl⟩
      case round =>
        obtain ⟨k, hk1, hk8, rfl, hin⟩ := hrel
        obtain ⟨m, rfl⟩ := hin.out
        clear hin
        by_cases hlt : k < N
        · obtain ⟨j, hjk⟩ : ∃ j, j + 1 = k := ⟨k - 1, by omega⟩
          obtain ⟨b1, off1, x, rfl, hx, _, dx⟩ := H3.out.1.text_at (k := j) (by omega)
          obtain ⟨b2, off2, y, e2, hy, _, dy⟩ := H3.out.1.text_at (k := k) (by omega)
          simp only [Option.some.injEq, Addr.mk.injEq, and_true] at e2
          obtain ⟨rfl, rfl⟩ := e2
          have hlt2 : (k : Int) < (N : Int) := by omega
          have hxy : x < y := by
            have hp := List.pairwise_iff_getElem.1 HB.out.2.2 j k (by have := HN.out.1; have := HN.out.2; omega) (by have := HN.out.1; have := HN.out.2; omega) (by omega)
            rw [List.getElem?_eq_some_iff] at hx hy
            obtain ⟨_, rfl⟩ := hx
            obtain ⟨_, rfl⟩ := hy
            exact hp
          have hkj : (k : Int) - 1 = (j : Int) := by omega
          have hjN : j < N := by omega
          have hkw : IntKind.i64.wrap (j : Int) = (j : Int) := IntWalk.i64_in _ (by omega)
          have hgeq := fun W => run_geq_str (P := Tryz.prog) 9 hxy W
          clear hx hy hjk hxy
          go_wp2_with fail
          go_quiet (fail)
          go_wp2_with fail
          go_roundw
          case rel => exact ⟨k + 1, by omega, by omega, by go_num, _, rfl⟩
          case measure => simp [intOf]; omega
        · have hlt2 : ¬ (k : Int) < (N : Int) := by omega
          have HX4 := Lib.hid (HX3.out.trans ((Ext.refl _ w3).drewN m))
          have H4 : Hid (Rd (w3.drewN m) 9 1 (.slice a N c) N ((skeys d).map bstr)) := H3.out.1.kept (fun _ _ _ h => h)
          obtain ⟨W4, hW4⟩ : ∃ W4, w3.drewN m = W4 := ⟨_, rfl⟩
          rw [hW4] at HX4 H4 ⊢
          clear hW4 HX3 H3 hlt
          go_wp2_with fail
          go_loopw [14, 15] (fun bv iv wr => ∃ j : Nat, j ≤ N ∧ iv = .int .i64 j ∧ bv = .int .i64 (belowN (skeys d) j) ∧ Hid (wr = W4)) (fun _ iv _ => N - (intOf iv).toNat)
          case atStart => exact ⟨0, by omega, rfl, rfl, rfl⟩
          case round =>
            obtain ⟨j, hj, rfl, rfl, hin⟩ := hrel
            obtain rfl := hin.out
            have hbl := belowN_le (skeys d) j
            by_cases hjn : j < N
            · obtain ⟨b1, off1, x, rfl, hx, _, dx⟩ := H4.out.text_at (k := j) hjn
              have hbs := belowN_succ hx
              have hjn2 : (j : Int) < (N : Int) := by omega
              obtain ⟨B, hB⟩ : ∃ B, belowN (skeys d) j = B := ⟨_, rfl⟩
              rw [hB] at hbs hbl ⊢
              have HBS := Lib.hid hbs
              clear hx hbs hB hin hlt2
              have hE : (((ByteArray.mk x.toArray).extract 0 2).toList == [97, 47]) = decide (x.take 2 = [97, 47]) := by
                have e1 : ((ByteArray.mk x.toArray).extract 0 2).toList = x.take 2 := by
                  rw [ByteArray.toList_eq, ByteArray.data_extract]
                  simp
                rw [e1]
                by_cases h : x.take 2 = [97, 47] <;> simp [h]
              by_cases h2 : 2 ≤ x.length
              · by_cases hs : x.take 2 = [97, 47]
                · have hsp : spre [97, 47] x = true := by unfold spre; simp [hs, h2]
                  have hE2 := hE.trans (decide_eq_true hs)
                  clear hE hs
                  go_wp2_with fail
                  refine ⟨⟨j + 1, by omega, by go_num, ?_, by trivial⟩, by simp [intOf]; omega⟩
                  rw [HBS.out, hsp]; rfl
                · have hsp : spre [97, 47] x = false := by unfold spre; simp [hs]
                  have hE2 := hE.trans (decide_eq_false hs)
                  clear hE hs
                  go_wp2_with fail
                  refine ⟨⟨j + 1, by omega, by go_num, ?_, by trivial⟩, by simp [intOf]; omega⟩
                  rw [HBS.out, hsp]; rfl
              · have hsp : spre [97, 47] x = false := by unfold spre; simp [h2]
                clear hE
                go_wp2_with fail
                refine ⟨⟨j + 1, by omega, by go_num, ?_, by trivial⟩, by simp [intOf]; omega⟩
                rw [HBS.out, hsp]; rfl
            · obtain rfl : j = N := by omega
              have hbn : belowN (skeys d) j = ((skeys d).filter (spre [97, 47])).length := by unfold belowN; rw [List.take_of_length_le (by have := HN.out.1; have := HN.out.2; omega)]
              obtain ⟨B, hB⟩ : ∃ B, belowN (skeys d) j = B := ⟨_, rfl⟩
              rw [hB] at hbn hbl ⊢
              have HYB : Hid (∀ W, Ext (fun _ => False) w W → Calls Tryz.prog 23 #[.pointer (some ⟨sp, 0, none⟩), .string ⟨#[97, 47]⟩] W fun e w' => ∃ a c, e = .returned (.slice a B c) ∧ Hid (Ext (fun _ => False) W w')) := by
                intro W he
                have := HY.out [97, 47] W he
                rw [← hbn] at this
                refine this.mono ?_
                rintro e w' ⟨a, c, rfl, h⟩
                exact ⟨a, c, rfl, h.out.2⟩
              clear hbn hB hin hlt2
              go_wp2_with fail
              refine (HS.out _ HX4.out).mono ?_
              rintro e w5 ⟨rfl, b5⟩
              have HX5 := Lib.hid (HX4.out.trans (Ext.of_below b5 (Nat.le_refl _)))
              clear b5
              go_wp2_with fail
              refine (HYB.out _ HX5.out).mono ?_
              rintro e w6 ⟨a6, c6, rfl, H6⟩
              go_wp2_with fail
              go_ret
              exact ⟨rfl, HX5.out.trans H6.out⟩
end Go.Proofs.YtekolejeliefdaaGreat
