/- A store's map changed by pairs. -/
import Derived.Test.YtekolejeliefdaaGreatStF
set_option linter.unusedVariables false
set_option linter.unusedSimpArgs false
namespace Go.Proofs.YtekolejeliefdaaGreat
open Go.RowKit Go.Maps Go.Shelf Go.ChangeMaps

abbrev SP := List UInt8 × List UInt8 × Bool
def spcells (ps : List SP) : List Value := ps.flatMap fun p => [bstr p.1, bstr p.2.1, .bool p.2.2]
def chg1 (d : SM) (p : SP) : SM := if p.2.2 then sdel d p.1 else sput d p.1 p.2.1
def chg (d : SM) (ps : List SP) : SM := ps.foldl chg1 d

theorem spcells_length (ps : List SP) : (spcells ps).length = ps.length * 3 := by
  induction ps with
  | nil => rfl
  | cons p ps ih => simp only [spcells, List.flatMap_cons, List.length_append, List.length_cons, List.length_nil] at ih ⊢; omega
theorem spcells_at : ∀ (ps : List SP) (j : Nat) (p : SP), ps[j]? = some p → (spcells ps)[j * 3]? = some (bstr p.1) ∧ (spcells ps)[j * 3 + 1]? = some (bstr p.2.1) ∧ (spcells ps)[j * 3 + 2]? = some (.bool p.2.2)
  | [], j, p, h => by simp at h
  | q :: ps, 0, p, h => by
    simp only [List.getElem?_cons_zero, Option.some.injEq] at h
    subst h
    exact ⟨rfl, rfl, rfl⟩
  | q :: ps, j + 1, p, h => by
    have := spcells_at ps j p (by simpa using h)
    have e1 : spcells (q :: ps) = bstr q.1 :: bstr q.2.1 :: .bool q.2.2 :: spcells ps := rfl
    rw [e1]
    have a0 : (j + 1) * 3 = j * 3 + 1 + 1 + 1 := by omega
    have a1 : (j + 1) * 3 + 1 = j * 3 + 1 + 1 + 1 + 1 := by omega
    have a2 : (j + 1) * 3 + 2 = j * 3 + 2 + 1 + 1 + 1 := by omega
    rw [a1, a2, a0]
    simp only [List.getElem?_cons_succ]
    exact this
theorem sins_length (x : List UInt8 × List UInt8) (d : SM) : (sins x d).length = d.length + 1 := by
  induction d with
  | nil => rfl
  | cons y r ih => simp only [sins]; split <;> simp [ih]
theorem chg1_length (d : SM) (p : SP) : (chg1 d p).length ≤ d.length + 1 := by
  have : ∀ k, (sdel d k).length ≤ d.length := fun k => List.length_filter_le _ _
  unfold chg1
  split
  · exact Nat.le_succ_of_le (this _)
  · rw [sput, sins_length]
    exact Nat.succ_le_succ (this _)
theorem chg_take (d : SM) (ps : List SP) (j : Nat) (p : SP) (h : ps[j]? = some p) : chg d (ps.take (j + 1)) = chg1 (chg d (ps.take j)) p := by
  rw [List.take_add_one, h]
  simp [chg]
theorem chg_length (d : SM) (ps : List SP) : (chg d ps).length ≤ d.length + ps.length := by
  induction ps generalizing d with
  | nil => simp [chg]
  | cons p ps ih =>
    have := ih (chg1 d p)
    have h2 := chg1_length d p
    simp only [chg, List.foldl_cons, List.length_cons] at this ⊢
    omega

set_option maxRecDepth 100000 in
set_option maxHeartbeats 2000000 in
theorem change_any {w : World} {v : Value} {n b : Nat} {ps : List SP} {d : SM} (hv : Rd w 54 3 v n (spcells ps)) (h : SMap w b d) (hk : ∀ p ∈ ps, p.1.length ≤ 1073741824) (hd : d.length + n ≤ 1073741824) :
    Calls Tryz.prog 52 #[.map (some b), v] w fun e w' => e = .returned (.tuple #[]) ∧ SMap w' b (chg d ps) ∧ Ext (· = b) w w' := by
  obtain ⟨a, c, rfl⟩ := hv.form
  have hn : ps.length = n := by have := hv.1; rw [spcells_length] at this; omega
  have hn2 : (n : Int) ≤ 1073741824 := by omega
  have H := Lib.hid (And.intro hv (And.intro h (And.intro hk (And.intro hd hn))))
  clear hv h hk hd hn
  go_enter Tryz.func52, Tryz.ntmps52
  go_wp2
  go_loopw [5, 8] (fun _ iv wr => ∃ j : Nat, j ≤ n ∧ iv = .int .i64 j ∧ Hid (SMap wr b (chg d (ps.take j)) ∧ Ext (· = b) w wr)) (fun _ iv _ => n - (intOf iv).toNat)
  case atStart => exact ⟨0, by omega, rfl, H.out.2.1, Ext.refl _ _⟩
  case round =>
    obtain ⟨j, hj, rfl, hin⟩ := hrel
    by_cases hjn : j < n
    · obtain ⟨p, hp⟩ : ∃ p, ps[j]? = some p := ⟨_, List.getElem?_eq_getElem (by have := H.out.2.2.2.2; omega)⟩
      obtain ⟨k, x, g⟩ := p
      have hbn : ∀ (cs : Array Value) (e : TypeId) (fr : Nat × Nat), w.heap[b]? ≠ some (.cells cs e fr) := fun cs e fr => MapL.noCells H.out.2.1 cs e fr
      have hv := H.out.1.kept (w1 := wr) (fun b' cur fr hb => (hin.out.2.block b' (lt_of_heap hb) (by rintro rfl; exact hbn _ _ _ hb)).trans hb)
      obtain ⟨bk, off, c', e1, _, hc⟩ := hv.cell (by omega)
      simp only [Value.slice.injEq, true_and] at e1
      obtain ⟨rfl, rfl⟩ := e1
      obtain ⟨p0, p1, p2⟩ := spcells_at ps j _ hp
      have h0 := hc (j * 3) (by omega)
      have h1 := hc (j * 3 + 1) (by omega)
      have h2 := hc (j * 3 + 2) (by omega)
      rw [p0] at h0
      rw [p1] at h1
      rw [p2] at h2
      rw [← Nat.add_assoc] at h1 h2
      clear hc p0 p1 p2
      have hkl : k.length ≤ 1073741824 := H.out.2.2.1 _ (List.mem_of_getElem? hp)
      have hdl : (chg d (ps.take j)).length < 4611686018427387903 := by
        have := chg_length d (ps.take j)
        have := H.out.2.2.2.1
        rw [List.length_take] at *
        omega
      have hm0 : SMap (wr.alloc (.cells #[.string ⟨k.toArray⟩, .string ⟨x.toArray⟩, .bool g] 54)) b (chg d (ps.take j)) := MapL.kept hin.out.1 (heap_alloc_lt (MapL.lt hin.out.1))
      have hx0 : Ext (· = b) w (wr.alloc (.cells #[.string ⟨k.toArray⟩, .string ⟨x.toArray⟩, .bool g] 54)) := hin.out.2.alloc _
      have hct := chg_take d ps j _ hp
      have HJ : Hid (j + 1 ≤ n) := Lib.hid hjn
      cases g with
      | true =>
        obtain ⟨w3, hrun, hm3, ht3⟩ := MapL.drop hm0 (Maps.string_keyed Tryz.underlying9) Tryz.underlying47 (keyS (x := k) (by omega)) 0
        rw [sME_del] at hm3
        have hfin : Hid (SMap w3 b (chg d (ps.take (j + 1))) ∧ Ext (· = b) w w3) := ⟨by rw [hct]; exact hm3, hx0.trans (mapTurned_ext ht3)⟩
        clear hm0 hx0 hm3 ht3 hct hin hv
        go_wp2_with fail
        exact ⟨⟨j + 1, HJ.out, by go_num, hfin⟩, by simp [intOf]; omega⟩
      | false =>
        obtain ⟨w3, hrun, hm3, ht3⟩ := MapL.store hm0 (Maps.string_keyed Tryz.underlying9) Tryz.underlying47 (by rw [sME_length]; simp only [maxLen]; omega) (keyS (x := k) (by omega)) (bstr x)
        rw [sME_put] at hm3
        have hfin : Hid (SMap w3 b (chg d (ps.take (j + 1))) ∧ Ext (· = b) w w3) := ⟨by rw [hct]; exact hm3, hx0.trans (mapTurned_ext ht3)⟩
        clear hm0 hx0 hm3 ht3 hct hin hv
        go_wp2_with fail
        exact ⟨⟨j + 1, HJ.out, by go_num, hfin⟩, by simp [intOf]; omega⟩
    · obtain rfl : j = n := by omega
      go_wp2
      go_end0
      have h1 := hin.out
      rw [List.take_of_length_le (by have := H.out.2.2.2.2; omega)] at h1
      exact ⟨rfl, h1⟩

end Go.Proofs.YtekolejeliefdaaGreat
