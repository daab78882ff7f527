/- Maps as lists of entries, the keys as data, the elements as the values that they are. No program in sight. -/
import Derived.Test.YtekolejeliefdaaGreatBase
import Derived.Maps.OwnSet
import Derived.Maps.RangeWalk
import Derived.Shelf.Lay
set_option linter.unusedVariables false
set_option linter.unusedSimpArgs false
namespace Go.Proofs.YtekolejeliefdaaGreat
open Go.RowKit Go.Maps Go.WideElems Go.ChangeMaps

/-- What a map's elements read as: themselves. -/
def RV (v : Value) : Option (DataW Value × List MemPlace) := some (.held v, [])
abbrev ME := List (Lit × Value)
def mD (l : ME) : DataW Value := .map (l.map fun p => (p.1, .held p.2))
def lget (l : ME) (k : Lit) : Option Value := (l.find? (fun p => p.1.sameKey k)).map (·.2)
def lins (x : Lit × Value) : ME → ME
  | [] => [x]
  | y :: r => if x.1.before y.1 then x :: y :: r else y :: lins x r
def ldel (l : ME) (k : Lit) : ME := l.filter (fun p => !p.1.sameKey k)
def lput (l : ME) (k : Lit) (v : Value) : ME := lins (k, v) (ldel l k)
/-- Block b is a map of just these entries. -/
def MapL (P : Program) (k : TypeId) (w : World) (b : Nat) (l : ME) : Prop := w.ownsMap P k RV b l.length (mD l)

theorem sameKey_int (a b : Int) : (Lit.int .i64 a).sameKey (.int .i64 b) = decide (a = b) := by simp [Lit.sameKey]
theorem lget_nil (k : Lit) : lget [] k = none := rfl
theorem lget_cons (p : Lit × Value) (l : ME) (k : Lit) : lget (p :: l) k = if p.1.sameKey k then some p.2 else lget l k := by
  simp only [lget, List.find?_cons]
  cases p.1.sameKey k <;> rfl
theorem map_insert (x : Lit × Value) (l : ME) : DataW.insert (x.1, .held x.2) (l.map fun p => (p.1, DataW.held p.2)) = (lins x l).map fun p => (p.1, .held p.2) := by
  induction l with
  | nil => rfl
  | cons y r ih =>
    simp only [List.map_cons, DataW.insert, lins]
    split
    · rfl
    · simp only [List.map_cons, ih]
theorem mD_del (l : ME) (k : Lit) : (mD l).del k = mD (ldel l k) := by
  simp only [mD, DataW.del, ldel, List.filter_map]
  rfl
theorem mD_put (l : ME) (k : Lit) (v : Value) : (mD l).put k (.held v) = mD (lput l k v) := by
  simp only [mD, DataW.put, lput, ← map_insert, ldel, List.filter_map]
  rfl
theorem mD_atKey (l : ME) (k : Lit) (z : Value) : (mD l).atKey k (.held z) = .held ((lget l k).getD z) := by
  simp only [mD, DataW.atKey, lget, List.find?_map]
  have : (fun p : Lit × DataW Value => p.1.sameKey k) ∘ (fun p : Lit × Value => (p.1, DataW.held p.2)) = fun p : Lit × Value => p.1.sameKey k := rfl
  rw [this]
  cases List.find? (fun p : Lit × Value => p.1.sameKey k) l <;> rfl
theorem mD_has (l : ME) (k : Lit) : Maps.has (mD l) k = (lget l k).isSome := by
  simp only [mD, Maps.has, lget, Option.isSome_map, List.any_map]
  induction l with
  | nil => rfl
  | cons y r ih =>
    simp only [List.any_cons, List.find?_cons, Function.comp]
    cases h : y.1.sameKey k
    · simpa [Function.comp] using ih
    · simp
theorem mD_size (l : ME) : Maps.size (mD l) = l.length := by simp [mD, Maps.size]

section
variable {P : Program} {k : TypeId} {w w1 : World} {b n : Nat} {l : ME}
theorem MapL.of_owns (h : w.ownsMap P k RV b n (mD l)) : MapL P k w b l := by
  obtain ⟨es, cl, hb, F, hs, hD⟩ := h
  refine ⟨es, cl, hb, F, ?_, hD⟩
  simp only [mD, DataW.map.injEq] at hD
  have := congrArg List.length hD
  rw [length_sorted] at this
  simp at this
  omega
theorem MapL.kept (h : MapL P k w b l) (hb : w1.heap[b]? = w.heap[b]?) : MapL P k w1 b l := by
  obtain ⟨es, cl, hb', F, hs, hD⟩ := h
  exact ⟨es, cl, hb.trans hb', F, hs, hD⟩
theorem MapL.lt (h : MapL P k w b l) : b < w.heap.size := World.ownsMap.lt h
theorem MapL.noCells (h : MapL P k w b l) (cs : Array Value) (e : TypeId) (fr : Nat × Nat) : w.heap[b]? ≠ some (.cells cs e fr) := by
  obtain ⟨es, cl, hb', _⟩ := h
  rw [hb']
  simp
theorem MapL.made (w : World) (P : Program) (k : TypeId) : MapL P k (w.alloc (.map #[] 0)) w.heap.size [] := World.ownsMap_made w P k RV
theorem MapL.look {t e : TypeId} (h : MapL P k w b l) (K : Keyed P k) (ht : P.underlying t = some (.map k e)) {z : Value} (hz : ∀ w, (zeroValue e).run P w = .ok z w) {key : Value} {kl : Lit} (hkey : keyOf P k key = some kl) :
    (Instr.lookup t (.map (some b)) key false).run P w = .ok ((lget l kl).getD z) w := by
  obtain ⟨v, ps, h1, h2⟩ := World.ownsMap.lookup h K ht (hz w) (zd := .held z) (zp := []) rfl hkey
  rw [mD_atKey] at h2
  simp only [RV, Option.some.injEq, Prod.mk.injEq, DataW.held.injEq] at h2
  rw [h1, h2.1]
theorem MapL.look_ok {t e : TypeId} (h : MapL P k w b l) (K : Keyed P k) (ht : P.underlying t = some (.map k e)) {z : Value} (hz : ∀ w, (zeroValue e).run P w = .ok z w) {key : Value} {kl : Lit} (hkey : keyOf P k key = some kl) :
    (Instr.lookup t (.map (some b)) key true).run P w = .ok (.tuple #[(lget l kl).getD z, .bool (lget l kl).isSome]) w := by
  obtain ⟨v, ps, h1, h2⟩ := World.ownsMap.look_ok h K ht (hz w) (zd := .held z) (zp := []) rfl hkey
  rw [mD_atKey] at h2
  simp only [RV, Option.some.injEq, Prod.mk.injEq, DataW.held.injEq] at h2
  rw [h1, h2.1, mD_has]
theorem MapL.size {t e : TypeId} (h : MapL P k w b l) (ht : P.underlying t = some (.map k e)) (ty : TypeId) : (Builtin.len_ #[t] ty #[.map (some b)]).run P w = .ok (.int .i64 l.length) w := by
  have := World.ownsMap.len h ht ty
  rwa [mD_size] at this
theorem MapL.clear {t e : TypeId} (h : MapL P k w b l) (ht : P.underlying t = some (.map k e)) (ty : TypeId) :
    ∃ cl, (Builtin.clear_ #[t] ty #[.map (some b)]).run P w = .ok (.tuple #[]) (setBlock w b (.map #[] cl)) ∧ MapL P k (setBlock w b (.map #[] cl)) b [] ∧ w.mapTurned (setBlock w b (.map #[] cl)) b := by
  obtain ⟨es, cl, hb, F, hs, hD⟩ := h
  refine ⟨cl, ?_, ⟨#[], cl, heap_setBlock_same hb _, ?_, Nat.le_refl _, by simp [mD]⟩, ⟨es, cl, #[], cl, hb, rfl⟩⟩
  · simp [Builtin.clear_, run_underlying ht, MapKept.run_getObj_map hb, MapKept.run_setObj_map _ hb, Result.andThen, setBlock]
  · exact ⟨by simp, by simp [MapKept.Stamped], by simp⟩
theorem MapL.store {t e : TypeId} (h : MapL P k w b l) (K : Keyed P k) (ht : P.underlying t = some (.map k e)) (hn : l.length < maxLen) {key : Value} {kl : Lit} (hkey : keyOf P k key = some kl) (val : Value) :
    ∃ w', (Instr.mapUpdate t (.map (some b)) key val).run P w = .ok () w' ∧ MapL P k w' b (lput l kl val) ∧ w.mapTurned w' b := by
  obtain ⟨w', h1, h2, h3⟩ := World.ownsMap.store h K ht hn hkey (d := .held val) (ps := []) rfl
  exact ⟨w', h1, MapL.of_owns (by rw [← mD_put]; exact h2), h3⟩
theorem MapL.drop {t e : TypeId} (h : MapL P k w b l) (K : Keyed P k) (ht : P.underlying t = some (.map k e)) {key : Value} {kl : Lit} (hkey : keyOf P k key = some kl) (ty : TypeId) :
    ∃ w', (Builtin.delete_ #[t, k] ty #[.map (some b), key]).run P w = .ok (.tuple #[]) w' ∧ MapL P k w' b (ldel l kl) ∧ w.mapTurned w' b := by
  obtain ⟨w', h1, h2, h3⟩ := World.ownsMap.drop h K ht hkey ty
  exact ⟨w', h1, MapL.of_owns (by rw [← mD_del]; exact h2), h3⟩
/-- 'm[k] = v' at the operation. -/
theorem wpList_store {ops : Array Oper} {rest : List Oper} {o : Oper} {a : Act} {Q : Exit → Act → World → Prop}
    (hg : o.guard = none) (m x v : Operand) (t : TypeId) (hop : o.op = Op.mapUpdate t m x v) (e : TypeId) (K : Keyed P k) (ht : P.underlying t = some (.map k e))
    (hm : a.eval m = .map (some b)) (h : MapL P k w b l) (hn : l.length < maxLen) (key val : Value) (kl : Lit) (hx : a.eval x = key) (hv : a.eval v = val) (hkey : keyOf P k key = some kl)
    (hK : ∀ w', MapL P k w' b (lput l kl val) → w.mapTurned w' b → wpList P ops Q rest (a.put o.dst undef) w') : wpList P ops Q (o :: rest) a w :=
  wpList_mapUpdate_in w hg m x v t hop k e K ht RV b l.length (mD l) hm h hn key val kl hx hv hkey (.held val) [] rfl fun w' h1 h2 => hK w' (MapL.of_owns (by rw [← mD_put]; exact h1)) h2
end
theorem mapTurned_ext {w w1 : World} {b : Nat} (h : w.mapTurned w1 b) : Ext (· = b) w w1 := Ext.of_grown h.grown (fun k e => by cases e; rfl)
theorem mapTurned_keepT {w w1 : World} {b : Nat} (h : w.mapTurned w1 b) (e : TypeId) : KeepT e w w1 := by
  refine (mapTurned_ext h).keepT ?_
  rintro k cur fr hq rfl
  obtain ⟨es, cl, _, _, hb, _⟩ := h
  rw [hb] at hq
  simp at hq
end Go.Proofs.YtekolejeliefdaaGreat
