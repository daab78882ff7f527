/- The store's statements, plain: keys of a map that is changed; their order; what is counted. -/
import Derived.Test.YtekolejeliefdaaGreatStN
set_option linter.unusedVariables false
set_option linter.unusedSimpArgs false
namespace Go.Proofs.YtekolejeliefdaaGreat
open Go.RowKit

theorem keys_sdel (d : SM) (k : List UInt8) : ((sdel d k).map (·.1)).Sublist (d.map (·.1)) := List.Sublist.map _ List.filter_sublist
theorem keys_sins (x : List UInt8 × List UInt8) (d : SM) : (sins x d).Perm (x :: d) := by
  induction d with
  | nil => exact List.Perm.refl _
  | cons y r ih =>
    simp only [sins]
    split
    · exact List.Perm.refl _
    · exact (List.Perm.cons y ih).trans (List.Perm.swap x y r)
theorem sdel_none (d : SM) (k : List UInt8) : k ∉ (sdel d k).map (·.1) := by
  intro h
  simp only [List.mem_map, sdel, List.mem_filter] at h
  obtain ⟨p, ⟨_, h2⟩, rfl⟩ := h
  simp at h2
theorem chg1_nodup {d : SM} (h : (d.map (·.1)).Nodup) (p : SP) : ((chg1 d p).map (·.1)).Nodup := by
  have h1 : ((sdel d p.1).map (·.1)).Nodup := List.Nodup.sublist (keys_sdel d p.1) h
  unfold chg1
  split
  · exact h1
  · unfold sput
    rw [((keys_sins (p.1, p.2.1) (sdel d p.1)).map (·.1)).nodup_iff, List.map_cons, List.nodup_cons]
    exact ⟨sdel_none d p.1, h1⟩
theorem chg_nodup {d : SM} (h : (d.map (·.1)).Nodup) (ps : List SP) : ((chg d ps).map (·.1)).Nodup := by
  induction ps generalizing d with
  | nil => exact h
  | cons p ps ih => exact ih (chg1_nodup h p)
theorem chg_all {F : List UInt8 × List UInt8 → Prop} {d : SM} {ps : List SP} (hd : ∀ q ∈ d, F q) (hp : ∀ p ∈ ps, F (p.1, p.2.1)) : ∀ q ∈ chg d ps, F q := by
  induction ps generalizing d with
  | nil => exact hd
  | cons p ps ih =>
    refine ih (d := chg1 d p) ?_ fun q hq => hp q (List.mem_cons_of_mem _ hq)
    intro q hq
    unfold chg1 at hq
    split at hq
    · exact hd q (List.mem_filter.1 hq).1
    · unfold sput at hq
      rcases List.mem_cons.1 ((keys_sins (p.1, p.2.1) (sdel d p.1)).mem_iff.1 hq) with rfl | hq
      · exact hp p List.mem_cons_self
      · exact hd q (List.mem_filter.1 hq).1
/-- A key is held just if there is a pair of it. -/
theorem sget_some_iff {d : SM} (hn : (d.map (·.1)).Nodup) {k v : List UInt8} : sget d k = some v ↔ (k, v) ∈ d := by
  refine ⟨sget_mem, fun h => ?_⟩
  induction d with
  | nil => cases h
  | cons p d ih =>
    rw [sget_cons]
    simp only [List.map_cons, List.nodup_cons] at hn
    rcases List.mem_cons.1 h with h | h
    · subst h
      simp
    · have : ¬ p.1 = k := by
        rintro rfl
        exact hn.1 (List.mem_map_of_mem (f := (·.1)) h)
      rw [if_neg this]
      exact ih hn.2 h
theorem sget_isSome {d : SM} {k : List UInt8} : (sget d k).isSome = true ↔ k ∈ d.map (·.1) := by
  induction d with
  | nil => simp [sget_nil]
  | cons p d ih =>
    rw [sget_cons, List.map_cons, List.mem_cons]
    by_cases h : p.1 = k
    · simp [h]
    · rw [if_neg h, ih]
      constructor
      · exact .inr
      · rintro (rfl | h2)
        · exact absurd rfl h
        · exact h2
/-- The keys of K that are held: just the keys. -/
theorem held_perm {d : SM} (hn : (d.map (·.1)).Nodup) {K : List (List UInt8)} (hK : K.Nodup) (hs : ∀ k ∈ d.map (·.1), k ∈ K) : (K.filter (fun k => (sget d k).isSome)).Perm (d.map (·.1)) := by
  rw [List.perm_ext_iff_of_nodup (hK.filter _) hn]
  intro k
  rw [List.mem_filter]
  constructor
  · rintro ⟨_, h⟩
    exact sget_isSome.1 h
  · intro h
    exact ⟨hs k h, sget_isSome.2 h⟩
def szOf (d : SM) (k : List UInt8) : Nat := k.length + ((sget d k).getD []).length
theorem ssize_map {d : SM} (hn : (d.map (·.1)).Nodup) : ((d.map (·.1)).map (szOf d)).sum = ssize d := by
  unfold ssize
  rw [List.map_map]
  congr 1
  refine List.map_congr_left fun p hp => ?_
  show szOf d p.1 = _
  unfold szOf
  rw [(sget_some_iff hn (v := p.2)).2 hp]
  rfl
theorem held_size {d : SM} (hn : (d.map (·.1)).Nodup) {K : List (List UInt8)} (hK : K.Nodup) (hs : ∀ k ∈ d.map (·.1), k ∈ K) :
    (K.filter (fun k => (sget d k).isSome)).length = d.length ∧ ((K.filter (fun k => (sget d k).isSome)).map (szOf d)).sum = ssize d := by
  have h := held_perm hn hK hs
  refine ⟨by rw [h.length_eq, List.length_map], ?_⟩
  rw [(h.map (szOf d)).sum_nat, ssize_map hn]
theorem keysF_nodup : keysF.Nodup := by decide
/-- Keys in order are each once, each below the next. -/
theorem skeys_lt {d : SM} (hn : (d.map (·.1)).Nodup) : (skeys d).Pairwise (· < ·) := by
  have h1 : (skeys d).Pairwise (fun x y => decide (x ≤ y) = true) := List.pairwise_mergeSort (fun a b c h1 h2 => by simp only [decide_eq_true_eq] at *; exact List.le_trans h1 h2) (fun a b => by simp only [Bool.or_eq_true, decide_eq_true_eq]; exact List.le_total a b) _
  have h2 : (skeys d).Nodup := (List.mergeSort_perm _ _).nodup_iff.2 hn
  have h3 := h1.and h2
  refine h3.imp ?_
  rintro a b ⟨q1, q2⟩
  simp only [decide_eq_true_eq] at q1
  rcases Decidable.em (a < b) with h | h
  · exact h
  · exact absurd (List.le_antisymm q1 h) q2
/-! ### Keys that are put, each with nothing -/
def nokey (x : List UInt8) : SP := (x, [], false)
theorem sdel_absent {d : SM} {k : List UInt8} (h : k ∉ d.map (·.1)) : sdel d k = d := by
  unfold sdel
  rw [List.filter_eq_self]
  intro p hp
  have : ¬ p.1 = k := by
    rintro rfl
    exact h (List.mem_map_of_mem (f := (·.1)) hp)
  simp [this]
theorem keys_sput (d : SM) (k v : List UInt8) : ((sput d k v).map (·.1)).Perm (k :: (sdel d k).map (·.1)) := (keys_sins (k, v) (sdel d k)).map _
theorem mem_sput {d : SM} {k v x : List UInt8} : x ∈ (sput d k v).map (·.1) ↔ x = k ∨ x ∈ d.map (·.1) := by
  rw [(keys_sput d k v).mem_iff, List.mem_cons]
  constructor
  · rintro (h | h)
    · exact .inl h
    · exact .inr ((keys_sdel d k).subset h)
  · rintro (h | h)
    · exact .inl h
    · by_cases hx : x = k
      · exact .inl hx
      · refine .inr ?_
        simp only [List.mem_map, sdel, List.mem_filter] at h ⊢
        obtain ⟨p, hp, rfl⟩ := h
        exact ⟨p, ⟨hp, by simpa using hx⟩, rfl⟩
theorem mem_puts (l : List (List UInt8)) (x : List UInt8) (d : SM) : x ∈ (chg d (l.map nokey)).map (·.1) ↔ x ∈ l ∨ x ∈ d.map (·.1) := by
  induction l generalizing d with
  | nil => simp [chg]
  | cons y l ih =>
    have h1 : chg d ((y :: l).map nokey) = chg (sput d y []) (l.map nokey) := rfl
    rw [h1, ih, mem_sput, List.mem_cons]
    constructor
    · rintro (h | h | h)
      · exact .inl (.inr h)
      · exact .inl (.inl h)
      · exact .inr h
    · rintro ((h | h) | h)
      · exact .inr (.inl h)
      · exact .inl h
      · exact .inr (.inr h)
theorem filter_sput (f : List UInt8 → Bool) {d : SM} (hn : (d.map (·.1)).Nodup) (k v : List UInt8) : (((sput d k v).map (·.1)).filter f).length = ((d.map (·.1)).filter f).length + if f k && !(d.map (·.1)).contains k then 1 else 0 := by
  rw [((keys_sput d k v).filter f).length_eq]
  by_cases h : k ∈ d.map (·.1)
  · have h1 : (d.map (·.1)).contains k = true := by simpa using h
    have h2 : (k :: (sdel d k).map (·.1)).Perm (d.map (·.1)) := by
      rw [List.perm_ext_iff_of_nodup (by rw [List.nodup_cons]; exact ⟨sdel_none d k, hn.sublist (keys_sdel d k)⟩) hn]
      intro x
      have := mem_sput (d := d) (k := k) (v := v) (x := x)
      rw [(keys_sput d k v).mem_iff] at this
      rw [this]
      constructor
      · rintro (rfl | h')
        · exact h
        · exact h'
      · exact .inr
    rw [h1, (h2.filter f).length_eq]
    simp
  · have h1 : (d.map (·.1)).contains k = false := by simpa using h
    rw [h1, sdel_absent h, List.filter_cons]
    by_cases hf : f k = true
    · simp [hf]
    · simp [hf]
/-- How many of the first i texts stand there for the first time and begin so. -/
def firsts (p : List UInt8) (l : List (List UInt8)) (i : Nat) : Nat := (((chg [] ((l.take i).map nokey)).map (·.1)).filter (spre p)).length
theorem puts_nodup (l : List (List UInt8)) : ((chg [] (l.map nokey)).map (·.1)).Nodup := chg_nodup (by simp) _
theorem firsts_zero (p : List UInt8) (l : List (List UInt8)) : firsts p l 0 = 0 := rfl
theorem firsts_succ (p : List UInt8) (l : List (List UInt8)) (i : Nat) (x : List UInt8) (h : l[i]? = some x) : firsts p l (i + 1) = firsts p l i + if spre p x && !(l.take i).contains x then 1 else 0 := by
  unfold firsts
  have h1 : chg [] ((l.take (i + 1)).map nokey) = sput (chg [] ((l.take i).map nokey)) x [] := by
    rw [List.take_add_one, h]
    simp [chg, chg1, nokey]
  rw [h1, filter_sput _ (puts_nodup _)]
  have h2 : ((chg [] ((l.take i).map nokey)).map (·.1)).contains x = (l.take i).contains x := by
    rw [Bool.eq_iff_iff, List.contains_iff_mem, List.contains_iff_mem, mem_puts]
    simp
  rw [h2]
theorem firsts_all (p : List UInt8) (l : List (List UInt8)) : firsts p l l.length = ((skeys (chg [] (l.map nokey))).filter (spre p)).length := by
  unfold firsts skeys
  rw [List.take_length, ((List.mergeSort_perm _ _).filter (spre p)).length_eq]
theorem firsts_le (p : List UInt8) (l : List (List UInt8)) (i : Nat) : firsts p l i ≤ i := by
  unfold firsts
  refine Nat.le_trans (List.length_filter_le _ _) ?_
  rw [List.length_map]
  have := chg_length [] ((l.take i).map nokey)
  rw [List.length_map, List.length_take] at this
  simp only [List.length_nil] at this
  omega
theorem puts_get (l : List (List UInt8)) {x : List UInt8} (h : x ∈ l) : sget (chg [] (l.map nokey)) x = some [] := by
  have h1 : x ∈ (chg [] (l.map nokey)).map (·.1) := (mem_puts l x []).2 (.inl h)
  obtain ⟨p, hp, rfl⟩ := List.mem_map.1 h1
  have h2 := chg_all (F := fun q => q.2 = []) (d := []) (ps := l.map nokey) (by simp) (by intro p hp; obtain ⟨y, _, rfl⟩ := List.mem_map.1 hp; rfl) p hp
  rw [sget_some_iff (puts_nodup l)]
  have : p = (p.1, []) := by rw [← h2]
  rw [← this]
  exact hp

/-! ### Pairs as they are read again -/
def normP (q : SP) : SP := if q.2.2 then (q.1, [], true) else q
theorem chg_norm (d : SM) (ps : List SP) : chg d (ps.map normP) = chg d ps := by
  induction ps generalizing d with
  | nil => rfl
  | cons p ps ih =>
    have h : chg1 d (normP p) = chg1 d p := by
      unfold normP chg1
      split <;> simp_all
    show chg (chg1 d (normP p)) (ps.map normP) = chg (chg1 d p) ps
    rw [h]
    exact ih _
end Go.Proofs.YtekolejeliefdaaGreat
