/- slices.Sorted(maps.Keys(m)) at a store's map; its copy. -/
import Derived.Test.YtekolejeliefdaaGreatStG
set_option linter.unusedVariables false
set_option linter.unusedSimpArgs false
namespace Go.Proofs.YtekolejeliefdaaGreat
open Go.RowKit Go.Maps Go.Sort Go.Shelf

theorem sortsT (m : Nat) : AnyZ.SortsIn Tryz.prog sortedT_ren Fence.wide m :=
  ⟨fun blk off cap ss W hH hblk hsz => callsIn_wide.2 (AnyM.slices_Sort_string sortT blk off cap ss W hH hblk hsz),
   fun p cap W => callsIn_wide.2 (AnyM.slices_Sort_string_none sortT p cap W)⟩

theorem skeys_any (mb : Option Nat) (w : World) : Calls Tryz.prog 61 #[.map mb] w fun e w' =>
    e = .returned (.func (.func 101) #[] #[.pointer (some ⟨w.heap.size, 0, none⟩)]) ∧ w' = w.alloc (.cells #[.map mb] 47) :=
  (callsIn_wide (n := 5)).1 (AnyZ.keys_in keysT Fence.wide 5 trivial rfl mb w)

theorem strKeys_sME (d : SM) : strKeys (mD (sME d)) = d.map (·.1) := by simp [mD, strKeys, sME, strOf]
/-- A store's keys in order. -/
def skeys (d : SM) : List (List UInt8) := (d.map (·.1)).mergeSort (fun x y => decide (x ≤ y))

theorem ssorted_any {w : World} {m k : Nat} {d : SM} (hm : SMap w m d) (hk : w.cell? ⟨k, 0, none⟩ = some (.map (some m))) (hkl : k < w.heap.size) (hl : d.length ≤ 1073741824) :
    Calls Tryz.prog 60 #[.func (.func 101) #[] #[.pointer (some ⟨k, 0, none⟩)]] w fun e w' => ∃ v, e = .returned v ∧
      w'.ownsRow w.heap.size 9 1 v d.length ((skeys d).map bstr) ∧ Below w.heap.size w w' := by
  have hml : m < w.heap.size := MapL.lt hm
  have hseq : SeqGives Fence.wide 2 Tryz.prog 101 #[.pointer (some ⟨k, 0, none⟩)] encStr (fun ss => ss.Perm (strKeys (mD (sME d)))) (Maps.size (mD (sME d))) w :=
    AnyZ.keys_gives (ρ := keysT_ren) { keysT with } Fence.wide _ trivial rfl (by omega) k m (sME d).length (mD (sME d)) _ hkl hk hm
  rw [mD_size, strKeys_sME, sME_length] at hseq
  have cS := AnyZ.sorted_in sortedT Fence.wide 5 trivial trivial trivial trivial rfl (by omega) (sortsT _) (enters_of Tryz.func100 (by kernel_rfl) rfl) 101 #[.pointer (some ⟨k, 0, none⟩)] trivial (enters_of Tryz.func101 (by kernel_rfl) rfl) _ d.length (by simp only [maxLen]; omega) (by omega) _ hseq
  refine ((callsIn_wide (n := 5)).1 cS).mono ?_
  rintro e w' ⟨v, ss, rfl, hS, hrow, hnil, hb⟩
  have e1 := mergeSort_of_perm hS
  refine ⟨v, rfl, ?_, hb⟩
  have hlen : ss.length = d.length := by rw [hS.length_eq]; simp
  rw [e1, hlen] at hrow
  exact hrow

theorem sclone_any {w : World} {b : Nat} {d : SM} (h : SMap w b d) : Calls Tryz.prog 54 #[.map (some b)] w fun e w' =>
    e = .returned (.map (some w.heap.size)) ∧ SMap w' w.heap.size d ∧ Below w.heap.size w w' := by
  refine (AnyW.maps_Clone_owns cloneT 9 RV b _ _ w h).mono ?_
  rintro e w' ⟨rfl, h1, h2, h3⟩
  exact ⟨rfl, h1, h3⟩

end Go.Proofs.YtekolejeliefdaaGreat
