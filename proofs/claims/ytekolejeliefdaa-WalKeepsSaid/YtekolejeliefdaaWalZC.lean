/- A slice of acts that came in is read. -/
import Derived.Test.YtekolejeliefdaaWalZB
import Derived.Deep.Slices
import Derived.Deep.Fields
import Derived.ChangeSame
import Derived.ChangeSlices
set_option linter.unusedVariables false
set_option linter.unusedSimpArgs false
namespace Go.Proofs.Ytekolejeliefdaa
open Go.RowKit Go.ChangeShapes Go.WideShapes Go.Deep

theorem list_two {α : Type} (l : List α) (h : l.length = 2) : ∃ a b, l = [a, b] := by
  match l, h with
  | [a, b], _ => exact ⟨a, b, rfl⟩
set_option maxRecDepth 100000 in
theorem open_acts {H : Type} {enc : TypeId × Value → H} {w : World} {base : Nat} {held : Bool} {fuel : Nat} {a : Option Addr} {len cap : Nat} {x : DataW H × List MemPlace}
    (h : DataW.trod enc Try.prog w base (fun _ => true) held fuel 67 [.slice a len cap] = some x) : ActsIn w (.slice a len cap) len := by
  rcases open_slice Try.underlying67 h with ⟨hcs, _⟩ | ⟨a', len', cap', m, n, D, Pl, hcs, hb, hl, hm, hmm, hx, hi⟩
  · simp only [List.cons.injEq, Value.slice.injEq, and_true] at hcs
    obtain ⟨rfl, rfl, rfl⟩ := hcs
    exact ⟨Nat.zero_le _, none, 0, rfl, .inl rfl⟩
  · simp only [List.cons.injEq, Value.slice.injEq, and_true] at hcs
    obtain ⟨rfl, rfl, rfl⟩ := hcs
    simp only [if_true] at hmm
    subst hmm
    have hC : (Try.prog).cellsOf 70 = 2 := by kernel_rfl
    have key : ∀ i, i < len → ∃ (what : Int) (al : Option Addr) (nl cl : Nat) (L : List UInt8), w.cell? (a'.add (i * 2)) = some (.int .i64 what) ∧ w.cell? ⟨(a'.add (i * 2)).block, (a'.add (i * 2)).off + 1, none⟩ = some (.slice al nl cl) ∧ BytesIn w (.slice al nl cl) nl L := by
      intro i hil
      obtain ⟨cs', hc, ht'⟩ := hi i (by omega)
      rw [hC] at hc
      obtain ⟨ys, n', hn', hy, hlen, hyl, hf⟩ := DataW.trod_struct Try.underlying70 ht'
      obtain ⟨_, hcl, hat⟩ := World.cells?_some hc
      have c0 := hat 0 (by omega)
      have c1 := hat 1 (by omega)
      have f0 := hf 0 _ rfl
      have f1 := hf 1 _ rfl
      have k0 : (Try.prog).cellsOf 3 = 1 := by kernel_rfl
      have k1 : (Try.prog).cellsOf 33 = 1 := by kernel_rfl
      obtain ⟨u0, u1, rfl⟩ := list_two cs' hcl
      have hy0 : ys[0]? = some (ys[0]'(by rw [hyl]; decide)) := List.getElem?_eq_getElem _
      have hy1 : ys[1]? = some (ys[1]'(by rw [hyl]; decide)) := List.getElem?_eq_getElem _
      change DataW.trod enc Try.prog w base (fun _ => true) held n' 3 (List.take ((Try.prog).cellsOf 3) [u0, u1]) = ys[0]? at f0
      change DataW.trod enc Try.prog w base (fun _ => true) held n' 33 (List.take ((Try.prog).cellsOf 33) [u1]) = ys[1]? at f1
      rw [k0] at f0
      rw [k1] at f1
      obtain ⟨what, e0, _, _⟩ := DataW.trod_int Try.underlying3 (f0.trans hy0)
      obtain rfl : u0 = .int .i64 what := by simpa using e0
      have c0' : w.cell? (a'.add (i * 2)) = some (.int .i64 what) := c0
      have c1' : w.cell? ⟨(a'.add (i * 2)).block, (a'.add (i * 2)).off + 1, none⟩ = some u1 := c1
      rcases open_ints Try.underlying33 Try.underlying5 (by kernel_rfl) (f1.trans hy1) with ⟨e1, _⟩ | ⟨b, l, cc, zs, e1, _, hl1, hm1, hz, _, hcell, hwz⟩
      · obtain rfl : u1 = .slice none 0 0 := by simpa using e1
        exact ⟨what, none, 0, 0, [], c0', c1', rfl, Nat.zero_le _, none, 0, rfl, .inl rfl⟩
      · obtain rfl : u1 = .slice (some b) l cc := by simpa using e1
        obtain ⟨L, hL⟩ := bytes_row (w := w) (a := some b) (len := l) (cap := cc) (zs := zs) (.inr ⟨b, rfl, hl1, hm1, by simpa using hz, hcell, hwz⟩)
        exact ⟨what, some b, l, cc, L, c0', c1', hL⟩
    refine ⟨by omega, some a', m, rfl, ?_⟩
    by_cases h0 : len = 0
    · exact .inl h0
    · refine .inr ⟨a', rfl, ?_, key⟩
      obtain ⟨what, al, nl, cl, L, h1, _⟩ := key 0 (by omega)
      have h2 : (a'.add (0 * 2)).block < w.heap.size := by
        rcases Nat.lt_or_ge (a'.add (0 * 2)).block w.heap.size with h' | h'
        · exact h'
        · simp [World.cell?, Array.getElem?_eq_none h'] at h1
      rwa [add_block] at h2
theorem keeps_row {a0 : Int} {v : Value} {n : Nat} (w : World) (w0 : (Lit.int .u8 a0).wf = true) (w1 : ActsIn w v n) :
    Calls Try.prog 10 #[.int .u8 a0, v] w fun e w' => e = .returned (.bool true) ∧ Below w.heap.size w w' := by
  have h := wf_u8 w0
  have := keeps_law a0.toNat (by omega) v n w w1
  rw [Int.toNat_of_nonneg h.1] at this
  exact this
end Go.Proofs.Ytekolejeliefdaa
