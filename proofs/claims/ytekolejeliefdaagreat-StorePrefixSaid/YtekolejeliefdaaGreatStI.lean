/- A store's keys that begin so; its size. -/
import Derived.Test.YtekolejeliefdaaGreatStH
set_option linter.unusedVariables false
set_option linter.unusedSimpArgs false
namespace Go.Proofs.YtekolejeliefdaaGreat
open Go.RowKit Go.Maps Go.Sort Go.Shelf

/-- Does a text begin so? -/
def spre (p x : List UInt8) : Bool := decide (p.length ≤ x.length) && decide (x.take p.length = p)

theorem str_eqD (xs ys : List UInt8) : ((⟨xs.toArray⟩ : ByteArray) = ⟨ys.toArray⟩) ↔ xs = ys := by
  constructor
  · intro h
    have := congrArg (fun b : ByteArray => b.data.toList) h
    simpa using this
  · rintro rfl
    rfl

theorem hasPrefix0_any {x p : List UInt8} (hx : x.length ≤ 1073741824) (w : World) : Calls Tryz.prog 102 #[bstr x, bstr p] w fun e w' => e = .returned (.bool (spre p x)) ∧ w' = w := by
  by_cases h : p.length ≤ x.length
  · go_enter Tryz.func102, Tryz.ntmps102
    go_wp2
    go_ret
    refine ⟨?_, rfl⟩
    have e1 : ((ByteArray.mk x.toArray).extract 0 p.length).toList = x.take p.length := by
      rw [ByteArray.toList_eq, ByteArray.data_extract]
      simp
    show Ending.returned (Value.bool (((ByteArray.mk x.toArray).extract 0 p.length).toList == p)) = _
    rw [e1]
    simp only [spre, h, decide_true, Bool.true_and]
    congr 2
    by_cases h2 : x.take p.length = p <;> simp [h2]
  · go_enter Tryz.func102, Tryz.ntmps102
    go_wp2
    go_ret
    simp [spre, h]

theorem hasPrefix_any {x p : List UInt8} (hx : x.length ≤ 1073741824) (w : World) : Calls Tryz.prog 62 #[bstr x, bstr p] w fun e w' => e = .returned (.bool (spre p x)) ∧ w' = w := by
  have H := Lib.hid (hasPrefix0_any (p := p) hx w)
  go_enter Tryz.func62, Tryz.ntmps62
  go_wp2_with (go_at_call 102; refine H.out.mono ?_; rintro e w' ⟨rfl, rfl⟩)
  go_ret
  exact ⟨rfl, rfl⟩


theorem bstrs_oneCell (l : List (List UInt8)) : ∀ u ∈ l.map bstr, u.oneCell' = true := by
  intro u hu
  simp only [List.mem_map] at hu
  obtain ⟨x, _, rfl⟩ := hu
  rfl
theorem skeys_length (d : SM) : (skeys d).length = d.length := by simp [skeys]
theorem mem_skeys {d : SM} {x : List UInt8} : x ∈ skeys d ↔ ∃ v, (x, v) ∈ d := by simp [skeys]
theorem filter_take_succ {α : Type} (f : α → Bool) (l : List α) (j : Nat) (x : α) (h : l[j]? = some x) : (l.take (j + 1)).filter f = (l.take j).filter f ++ (if f x then [x] else []) := by
  rw [List.take_add_one, h]
  simp [List.filter_append, List.filter_cons]
theorem info_str : (Tryz.prog.info? 9).map (fun i => (i.zero, i.size, i.bytes)) = some (some (.string ⟨#[]⟩), 1, 16) := by kernel_rfl

set_option maxRecDepth 100000 in
set_option maxHeartbeats 2000000 in
theorem keys_any5 {w : World} {sp b : Nat} {lp : Value} {down : Bool} {d : SM} {p : List UInt8} (hs : w.heap[sp]? = some (.cells #[lp, .map (some b), .bool down] 119 (0, 0))) (h : SMap w b d) (hd : d.length ≤ 1073741824)
    (hk : ∀ q ∈ d, q.1.length ≤ 1073741824) :
    Calls Tryz.prog 23 #[.pointer (some ⟨sp, 0, none⟩), bstr p] w fun e w' => ∃ v, e = .returned v ∧ w'.ownsRow w.heap.size 9 1 v ((skeys d).filter (spre p)).length (((skeys d).filter (spre p)).map bstr) ∧ Below w.heap.size w w' := by
  have c1 := cell_of_block hs 1
  simp at c1
  obtain ⟨n, hn⟩ : ∃ n, d.length = n := ⟨_, rfl⟩
  have HSO : Hid (∀ o, o = .cells #[.map (some b)] 47 → Calls Tryz.prog 60 #[.func (.func 101) #[] #[.pointer (some ⟨w.heap.size, 0, none⟩)]] (w.alloc o) fun e w' => ∃ a c, e = .returned (.slice a n c) ∧
      Hid (Rd w' 9 1 (.slice a n c) n ((skeys d).map bstr) ∧ Below w.heap.size w w')) := by
    rintro o rfl
    refine (ssorted_any (m := b) (k := w.heap.size) (d := d) (MapL.kept h (heap_alloc_lt (MapL.lt h))) (by rw [cell_of_block (heap_alloc_new w _)]; rfl) (by simp) hd).mono ?_
    rintro e w' ⟨v, rfl, h1, h2⟩
    rw [hn] at h1
    obtain ⟨a, c, rfl⟩ := (Rd.of_own h1).form
    exact ⟨a, c, rfl, Rd.of_own h1, ((Below.refl _ w).alloc (Nat.le_refl _) _).trans (h2.mono (by simp))⟩
  have HK := Lib.hid (fun W => skeys_any (some b) W)
  have HP := Lib.hid (fun (x : List UInt8) (hx : x.length ≤ 1073741824) W => hasPrefix_any (p := p) hx W)
  have hn2 : (n : Int) ≤ 1073741824 := by omega
  have H := Lib.hid (And.intro hn (And.intro hk (skeys_length d)))
  clear hs h hd hk hn
  go_enter Tryz.func23, Tryz.ntmps23
  go_wp2_with fail
  refine (HK.out _).mono ?_
  rintro e w1 ⟨rfl, rfl⟩
  go_wp2_with fail
  refine (HSO.out _ rfl).mono ?_
  rintro e w2 ⟨a, c, rfl, H2⟩
  have H0 : Hid (w2.ownsRow w2.heap.size 9 1 (.slice none 0 0) 0 [] ∧ RowKit.Below w2.heap.size w2 w2) := ⟨⟨rfl, .inl ⟨rfl, rfl⟩⟩, RowKit.Below.refl _ _⟩
  go_wp2_with fail
  go_loopw [5, 7, 15] (fun ov _ iv wr => ∃ (j m : Nat) (a5 : Option Addr) (c5 : Nat), j ≤ n ∧ m ≤ j ∧ iv = .int .i64 j ∧ ov = .slice a5 m c5 ∧ Hid (wr.ownsRow w2.heap.size 9 1 (.slice a5 m c5) m ((((skeys d).take j).filter (spre p)).map bstr) ∧ RowKit.Below w2.heap.size w2 wr)) (fun _ _ iv _ => n - (intOf iv).toNat)
  case atStart => exact ⟨0, 0, none, 0, by omega, by omega, rfl, rfl, by simpa using H0⟩
  case round =>
    obtain ⟨j, m, a5, c5, hj, hmj, rfl, rfl, hin⟩ := hrel
    by_cases hjn : j < n
    · obtain ⟨x, hx⟩ : ∃ x, (skeys d)[j]? = some x := ⟨_, List.getElem?_eq_getElem (by have := H.out.1; have := H.out.2.2; omega)⟩
      have hv := H2.out.1.kept (w1 := wr) (fun b' cur fr hb => (hin.out.2.block b' (lt_of_heap hb)).trans hb)
      obtain ⟨bk, off, c', e1, _, hc⟩ := hv.cell (by omega)
      simp only [Value.slice.injEq, true_and] at e1
      obtain ⟨rfl, rfl⟩ := e1
      have h0 := hc j (by omega)
      rw [List.getElem?_map, hx] at h0
      simp only [Option.map_some] at h0
      have hxl : x.length ≤ 1073741824 := by
        obtain ⟨v, hv⟩ := mem_skeys.1 (List.mem_of_getElem? hx)
        exact H.out.2.1 _ hv
      have hft := filter_take_succ (spre p) (skeys d) j x hx
      have HF := Lib.hid hft
      have HX := Lib.hid (HP.out x hxl wr)
      clear hc hv hft
      go_wp2_with fail
      refine HX.out.mono ?_
      rintro e w3 ⟨rfl, rfl⟩
      by_cases hsp : spre p x = true
      · have HA : Hid ((w3.alloc (.cells #[.string ⟨x.toArray⟩] 9)).ownsRow w2.heap.size 9 1 (.slice a5 m c5) m ((((skeys d).take j).filter (spre p)).map bstr) ∧ Rd (w3.alloc (.cells #[.string ⟨x.toArray⟩] 9)) 9 1 (.slice (some ⟨w3.heap.size, 0, none⟩) 1 1) 1 [bstr x]) := by
          refine ⟨own_keep hin.out.1 fun b cur fr hb => (heap_alloc_lt (lt_of_heap hb)).trans hb, rfl, by simp [maxLen], 1, .inr ⟨w3.heap.size, 0, rfl, Nat.le_refl _, .inr ⟨_, (0, 0), heap_alloc_new w3 _, rfl⟩⟩⟩
        have hle := hin.out.2.size
        have HLE : Hid (w2.heap.size ≤ (w3.alloc (.cells #[.string ⟨x.toArray⟩] 9)).heap.size) := Lib.hid (by simp; omega)
        have HB : Hid (∀ W, (w3.alloc (.cells #[.string ⟨x.toArray⟩] 9)).grownBy W (Value.slice a5 m c5).ownBlock → RowKit.Below w2.heap.size w2 W) := by
          intro W hg
          have hx1 : Ext (fun i => w2.heap.size ≤ i) w2 W := ((Ext.of_below hin.out.2 (Nat.le_refl _)).alloc _).trans (Ext.of_grown hg fun k hk => by
            obtain ⟨_, ⟨hh, _⟩ | ⟨g, cap, cur, hh, hgb, _⟩⟩ := hin.out.1
            · simp only [Value.slice.injEq] at hh
              simp [Value.ownBlock, hh.1] at hk
            · simp only [Value.slice.injEq] at hh
              simp [Value.ownBlock, hh.1] at hk
              omega)
          exact hx1.below (fun i hi hq => by omega) (Nat.le_refl _)
        have HO := Lib.hid bstrs_oneCell
        go_wp2_with (at_builtin; refine wpList_app rfl (.tmp 22) (.tmp 24) 23 rfl w2.heap.size 9 1 16 (.string ⟨#[]⟩) Tryz.underlying23 info_str rfl (by omega) (.slice a5 m c5) m _ rfl HA.out.1 _ 1 [bstr x] 9 rfl HA.out.2 (HO.out [x]) (by simp only [maxLen]; omega) (by omega) HLE.out ?_; intro v' W q1 q2 _; have hb := HB.out W q2; obtain ⟨a', c', rfl⟩ := (Rd.of_own q1).form; have G := Lib.hid (And.intro q1 hb); clear q1 q2 hb)
        refine ⟨⟨j + 1, m + 1, a', c', by omega, by omega, by go_num, rfl, ?_⟩, by simp [intOf]; omega⟩
        rw [HF.out, if_pos hsp, List.map_append]
        exact G
      · have hsp' : spre p x = false := by simpa using hsp
        go_wp2_with fail
        refine ⟨⟨j + 1, m, a5, c5, by omega, by omega, by go_num, rfl, ?_⟩, by simp [intOf]; omega⟩
        rw [HF.out, hsp']
        simpa using hin
    · obtain rfl : j = n := by omega
      go_wp2
      go_ret
      have h1 := hin.out.1
      rw [List.take_of_length_le (by have := H.out.1; have := H.out.2.2; omega)] at h1
      have hm : m = ((skeys d).filter (spre p)).length := by have := h1.1; simp only [List.length_map] at this; omega
      subst hm
      have hsz := H2.out.2.size
      refine ⟨_, rfl, ⟨h1.1, ?_⟩, ⟨hin.out.2.os.trans H2.out.2.os, hin.out.2.tape.trans H2.out.2.tape, hin.out.2.output.trans H2.out.2.output, Nat.le_trans hsz hin.out.2.size, fun k hk => (hin.out.2.block k (by omega)).trans (H2.out.2.block k hk)⟩⟩
      rcases h1.2 with h2 | ⟨g, cap, cur, e1, e2, e3⟩
      · exact .inl h2
      · exact .inr ⟨g, cap, cur, e1, by omega, e3⟩

end Go.Proofs.YtekolejeliefdaaGreat
