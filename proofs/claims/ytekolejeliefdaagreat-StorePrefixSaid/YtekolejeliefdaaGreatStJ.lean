/- A store's size. -/
import Derived.Test.YtekolejeliefdaaGreatStI
set_option linter.unusedVariables false
set_option linter.unusedSimpArgs false
namespace Go.Proofs.YtekolejeliefdaaGreat
open Go.RowKit Go.Maps Go.Sort Go.Shelf Go.ChangeMaps

def ssize (d : SM) : Nat := (d.map (fun p => p.1.length + p.2.length)).sum
theorem keyS_inv {v : Value} {kl : Lit} (h : keyOf Tryz.prog 9 v = some kl) : ∃ x, v = bstr x ∧ kl = .string x := by
  rw [keyOf_string Tryz.underlying9] at h
  simp only [mapKey, Tryz.underlying9] at h
  cases v <;> simp at h
  rename_i s
  refine ⟨s.data.toList, ?_, ?_⟩
  · simp [bstr]
  · exact h.2.symm
theorem sget_mem {d : SM} {k v : List UInt8} (h : sget d k = some v) : (k, v) ∈ d := by
  induction d with
  | nil => simp [sget_nil] at h
  | cons p d ih =>
    rw [sget_cons] at h
    by_cases hp : p.1 = k
    · simp only [hp, if_true, Option.some.injEq] at h
      subst hp; subst h
      exact List.mem_cons_self
    · simp only [hp, if_false] at h
      exact List.mem_cons_of_mem _ (ih h)
theorem ssize_cons (p : List UInt8 × List UInt8) (d : SM) : ssize (p :: d) = p.1.length + p.2.length + ssize d := by simp [ssize]
theorem ssize_left {d : SM} (hn : (d.map (·.1)).Nodup) (left : Lit → Bool) {k v : List UInt8} (hl : left (.string k) = true) (h : sget d k = some v) :
    ssize (d.filter (fun p => left (.string p.1))) = k.length + v.length + ssize (d.filter (fun p => left (.string p.1) && !(Lit.string p.1).sameKey (.string k))) := by
  induction d with
  | nil => simp [sget_nil] at h
  | cons p d ih =>
    rw [sget_cons] at h
    simp only [List.map_cons, List.nodup_cons] at hn
    simp only [List.filter_cons, Lit.sameKey] at ih ⊢
    by_cases hp : p.1 = k
    · simp only [hp, if_true, Option.some.injEq] at h
      subst h
      have h1 : d.filter (fun q => left (.string q.1) && !(q.1 == k)) = d.filter (fun q => left (.string q.1)) := by
        refine List.filter_congr fun q hq => ?_
        have : ¬ q.1 = k := fun e => hn.1 (by rw [hp, ← e]; exact List.mem_map_of_mem hq)
        simp [this]
      simp only [hp, hl, beq_self_eq_true, Bool.not_true, Bool.and_false, Bool.false_eq_true, if_false, if_true, ssize_cons, h1]
    · simp only [hp, if_false] at h
      have h2 := ih hn.2 h
      have : (p.1 == k) = false := by simpa using hp
      simp only [this, Bool.not_false, Bool.and_true]
      by_cases h3 : left (.string p.1) = true
      · simp only [h3, if_true, ssize_cons, h2]
        omega
      · simp only [h3, Bool.false_eq_true, if_false, h2]


/-- How far a range over a store's map has come. -/
structure SzInv (w wr : World) (b : Nat) (d : SM) (acc : Nat) (left : Lit → Bool) (cnt : Nat) : Prop where
  rng : wr.ranges Tryz.prog 9 RV b w.heap.size (sME d).length (mD (sME d)) left cnt
  sum : acc + ssize (d.filter (fun p => left (.string p.1))) = ssize d
  bel : RowKit.Below w.heap.size w wr

set_option maxRecDepth 100000 in
set_option maxHeartbeats 2000000 in
theorem size_any5 {w : World} {sp b : Nat} {lp : Value} {down : Bool} {d : SM} (hs : w.heap[sp]? = some (.cells #[lp, .map (some b), .bool down] 119 (0, 0))) (h : SMap w b d) (hn : (d.map (·.1)).Nodup) (hz : ssize d ≤ 1073741824) :
    Calls Tryz.prog 47 #[.pointer (some ⟨sp, 0, none⟩)] w fun e w' => e = .returned (.int .i64 (ssize d)) ∧ RowKit.Below w.heap.size w w' := by
  have c1 := cell_of_block hs 1
  simp at c1
  have HO := Lib.hid h
  have HN := Lib.hid (And.intro hn hz)
  clear hs h hn hz
  go_enter Tryz.func47, Tryz.ntmps47
  go_wp2_with (at_range; refine wpList_range_own _ rfl _ 47 rfl 9 9 (Maps.string_keyed Tryz.underlying9) Tryz.underlying47 RV b (sME d).length (mD (sME d)) rfl HO.out ?_; intro w0 hrg0 hg0 hs0)
  go_frame
  have H0 : Hid (SzInv w w0 b d 0 (Maps.has (mD (sME d))) (Maps.size (mD (sME d)))) := by
    refine ⟨hrg0, ?_, (Ext.of_grown (S := fun _ => False) hg0 (by simp)).below (fun _ _ q => q) (Nat.le_refl _)⟩
    have e1 : d.filter (fun p => Maps.has (mD (sME d)) (.string p.1)) = d := by
      rw [List.filter_eq_self]
      intro p hp
      rw [mD_has, sME_get, Option.isSome_map]
      simp only [sget, Option.isSome_map, List.find?_isSome]
      exact ⟨p, hp, by simp⟩
    rw [e1]
    omega
  clear hrg0 hg0 hs0
  go_loopw [3, 4, 5] (fun nv _ _ wr => ∃ acc : Nat, acc ≤ 1073741824 ∧ nv = .int .i64 acc ∧ Hid (∃ (left : Lit → Bool) (cnt : Nat), SzInv w wr b d acc left cnt)) (fun _ _ _ wr => wr.rangeLeft b w.heap.size)
  case atStart => exact ⟨0, by omega, rfl, _, _, H0.out⟩
  case round =>
    obtain ⟨acc, ha, rfl, hin'⟩ := hrel
    obtain ⟨left, cnt, hin0⟩ := hin'.out
    have hin := Lib.hid hin0
    have hrg := hin.out.rng
    clear hin'
    go_wp2_with (at_next; refine wpList_next_ranges _ rfl _ rfl 9 (Maps.string_keyed Tryz.underlying9) RV bstr (fun v : Value => v) (fun key kl hkey => by obtain ⟨x, rfl, _⟩ := keyS_inv hkey; exact ⟨x, rfl⟩) (fun v y _ => ⟨v, rfl⟩) b w.heap.size (sME d).length (mD (sME d)) left cnt rfl hrg ?_ ?_)
    · intro _ hl0
      have hfin : acc = ssize d := by
        have := hin.out.sum
        have e1 : d.filter (fun p => left (.string p.1)) = [] := by
          rw [List.filter_eq_nil_iff]
          intro p _
          simp [hl0]
        rw [e1] at this
        simpa [ssize] using this
      have HFI := Lib.hid (And.intro hfin hin.out.bel)
      clear hfin hrg hin0
      go_wp2
      go_ret
      refine ⟨?_, HFI.out.2⟩
      rw [← HFI.out.1]
      rfl
    · intro x c kl yd yp w1 cnt1 hkey hlk hv hat hrg1 hlt hg1 hs1 hen
      obtain ⟨x', ex, rfl⟩ := keyS_inv hkey
      have ex' : x = x' := by
        have h1 := congrArg (fun v : Value => match v with | .string s => s.data.toList | _ => []) ex
        simpa [bstr] using h1
      subst ex'
      simp only [RV, Option.some.injEq, Prod.mk.injEq] at hv
      obtain ⟨rfl, rfl⟩ := hv
      have hlg : lget (sME d) (.string x) = some c := by
        have h1 := hat (.held (.bool true))
        have h2 := hat (.held (.bool false))
        rw [mD_atKey] at h1 h2
        cases hl : lget (sME d) (.string x) with
        | none => rw [hl] at h1 h2; simp at h1 h2; rw [← h1] at h2; cases h2
        | some v => rw [hl] at h1; simp at h1; rw [h1]
      rw [sME_get] at hlg
      obtain ⟨v, hsg, rfl⟩ := Option.map_eq_some_iff.1 hlg
      have hsl := ssize_left HN.out.1 left hlk hsg
      have hnew : Hid (SzInv w w1 b d (acc + (x.length + v.length)) (fun z => left z && !z.sameKey (.string x)) cnt1) := by
        refine ⟨hrg1, ?_, ?_⟩
        · have := hin.out.sum
          rw [hsl] at this
          omega
        · have hx1 : Ext (fun i => w.heap.size ≤ i) w w1 := ((Ext.of_below hin.out.bel (Nat.le_refl _))).trans (Ext.of_grown hg1 fun k hk => by simp at hk; omega)
          exact hx1.below (fun i hi hq => by omega) (Nat.le_refl _)
      have hacc : acc + (x.length + v.length) ≤ 1073741824 := by
        have := hnew.out.sum
        have := HN.out.2
        omega
      have HLT := Lib.hid hlt
      clear hrg hkey hlk hat hrg1 hlt hg1 hs1 hlg hsl hin0 hsg
      go_wp2_with fail
      refine ⟨⟨acc + (x.length + v.length), hacc, by go_num, _, _, hnew.out⟩, ?_⟩
      rw [hnew.out.rng.left_eq, hin.out.rng.left_eq]
      exact HLT.out

end Go.Proofs.YtekolejeliefdaaGreat
