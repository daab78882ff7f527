/- Maps of texts to texts. -/
import Derived.Test.YtekolejeliefdaaGreatStE
import Derived.Test.YtekolejeliefdaaGreatLayT
import Derived.ChangeKeys
set_option linter.unusedVariables false
set_option linter.unusedSimpArgs false
namespace Go.Proofs.YtekolejeliefdaaGreat
open Go.RowKit Go.Maps Go.Shelf Go.ChangeMaps

abbrev SM := List (List UInt8 × List UInt8)
def sME (d : SM) : ME := d.map fun p => (.string p.1, bstr p.2)
def sget (d : SM) (k : List UInt8) : Option (List UInt8) := (d.find? (fun p => p.1 == k)).map (·.2)
def sins (x : List UInt8 × List UInt8) : SM → SM
  | [] => [x]
  | y :: r => if bytesBefore x.1 y.1 then x :: y :: r else y :: sins x r
def sdel (d : SM) (k : List UInt8) : SM := d.filter (fun p => !(p.1 == k))
def sput (d : SM) (k v : List UInt8) : SM := sins (k, v) (sdel d k)

theorem sME_length (d : SM) : (sME d).length = d.length := by simp [sME]
theorem sME_ins (x : List UInt8 × List UInt8) (d : SM) : lins (.string x.1, bstr x.2) (sME d) = sME (sins x d) := by
  induction d with
  | nil => rfl
  | cons y r ih =>
    simp only [sME, List.map_cons, lins, sins, Lit.before] at ih ⊢
    by_cases h : bytesBefore x.1 y.1 = true
    · simp [h]
    · simp only [h, if_false, List.map_cons, ih, Bool.false_eq_true]
theorem sME_del (d : SM) (k : List UInt8) : ldel (sME d) (.string k) = sME (sdel d k) := by
  simp only [sME, ldel, sdel, List.filter_map]
  rfl
theorem sME_put (d : SM) (k v : List UInt8) : lput (sME d) (.string k) (bstr v) = sME (sput d k v) := by
  rw [lput, sME_del, sput, ← sME_ins]
theorem sME_get (d : SM) (k : List UInt8) : lget (sME d) (.string k) = (sget d k).map bstr := by
  simp only [sME, lget, sget, List.find?_map]
  have : (fun p : Lit × Value => p.1.sameKey (.string k)) ∘ (fun p : List UInt8 × List UInt8 => (Lit.string p.1, bstr p.2)) = fun p => p.1 == k := rfl
  rw [this]
  cases List.find? (fun p : List UInt8 × List UInt8 => p.1 == k) d <;> rfl

theorem sget_nil (k : List UInt8) : sget [] k = none := rfl
theorem sget_cons (p : List UInt8 × List UInt8) (d : SM) (k : List UInt8) : sget (p :: d) k = if p.1 = k then some p.2 else sget d k := by
  simp only [sget, List.find?_cons]
  by_cases h : p.1 = k
  · simp [h]
  · have : (p.1 == k) = false := by simpa using h
    simp [this, h]
theorem sget_del (d : SM) (k k' : List UInt8) : sget (sdel d k) k' = if k = k' then none else sget d k' := by
  induction d with
  | nil => simp [sdel, sget_nil]
  | cons p d ih =>
    simp only [sdel, List.filter_cons] at ih ⊢
    by_cases h : p.1 = k
    · have : (p.1 == k) = true := by simpa using h
      simp only [this, Bool.not_true, Bool.false_eq_true, if_false, ih, sget_cons]
      subst h
      split <;> rfl
    · have : (p.1 == k) = false := by simpa using h
      simp only [this, Bool.not_false, if_true, sget_cons, ih]
      by_cases h2 : k = k'
      · subst h2
        simp [h]
      · simp [h2]
theorem sget_ins (x : List UInt8 × List UInt8) (d : SM) (h : sget d x.1 = none) (k : List UInt8) : sget (sins x d) k = if x.1 = k then some x.2 else sget d k := by
  induction d with
  | nil => simp [sins, sget_cons, sget_nil]
  | cons p d ih =>
    rw [sget_cons] at h
    by_cases hp : p.1 = x.1
    · simp [hp] at h
    · simp only [hp, if_false] at h
      simp only [sins]
      split
      · rw [sget_cons]
      · rw [sget_cons, ih h, sget_cons]
        by_cases h1 : p.1 = k
        · subst h1
          simp [Ne.symm hp]
        · simp [h1]
theorem sget_put (d : SM) (k v k' : List UInt8) : sget (sput d k v) k' = if k = k' then some v else sget d k' := by
  rw [sput, sget_ins _ _ (by rw [sget_del]; simp), sget_del]
  simp only
  split <;> rfl

theorem keyS {x : List UInt8} (hx : x.length ≤ 4611686018427387904) : keyOf Tryz.prog 9 (bstr x) = some (.string x) := by
  refine keyOf_of_mapKey ?_
  have h1 : (ByteArray.mk x.toArray).size ≤ maxLen := by rw [size_bstr]; simp only [maxLen]; omega
  simp [mapKey, Tryz.underlying9, h1]

/-- Block b is a map of texts. -/
def SMap (w : World) (b : Nat) (d : SM) : Prop := MapL Tryz.prog 9 w b (sME d)


/-- A store's block. -/
def stB (lp : Value) (b : Nat) (down : Bool) : Obj := .cells #[lp, .map (some b), .bool down] 119

theorem SMap.look {w : World} {b : Nat} {d : SM} (h : SMap w b d) {k : List UInt8} (hk : k.length ≤ 1073741824) (w' : World) (hb : w'.heap[b]? = w.heap[b]?) :
    (Instr.lookup 47 (.map (some b)) (bstr k) true).run Tryz.prog w' = .ok (.tuple #[bstr ((sget d k).getD []), .bool (sget d k).isSome]) w' := by
  have := (MapL.kept h hb).look_ok (Maps.string_keyed Tryz.underlying9) Tryz.underlying47 Tryz.zeroValue9 (keyS (x := k) (by omega))
  rw [this, sME_get]
  cases sget d k <;> rfl

theorem get_any5 {w : World} {sp b : Nat} {lp : Value} {down : Bool} {d : SM} {k : List UInt8} (hs : w.heap[sp]? = some (.cells #[lp, .map (some b), .bool down] 119 (0, 0))) (h : SMap w b d) (hk : k.length ≤ 1073741824) :
    Calls Tryz.prog 24 #[.pointer (some ⟨sp, 0, none⟩), bstr k] w fun e w' => e = .returned (.tuple #[bstr ((sget d k).getD []), .bool (sget d k).isSome]) ∧ w' = w := by
  have c1 := cell_of_block hs 1
  simp at c1
  have hl := h.look hk w rfl
  clear h hs
  go_enter Tryz.func24, Tryz.ntmps24
  go_wp2
  refine bodyPost_ret (v := .tuple #[bstr ((sget d k).getD []), .bool (sget d k).isSome]) ?_ rfl ⟨rfl, rfl⟩
  simp [results, Tryz.results24, go_sem]

theorem down_any5 {w : World} {sp b : Nat} {lp : Value} {down : Bool} (hs : w.heap[sp]? = some (.cells #[lp, .map (some b), .bool down] 119 (0, 0))) :
    Calls Tryz.prog 48 #[.pointer (some ⟨sp, 0, none⟩)] w fun e w' => e = .returned (.bool down) ∧ w' = w := by
  have c1 := cell_of_block hs 2
  simp at c1
  clear hs
  go_enter Tryz.func48, Tryz.ntmps48
  go_wp2
  go_ret
  exact ⟨rfl, rfl⟩

end Go.Proofs.YtekolejeliefdaaGreat
