/- slices.Sorted(maps.Keys(m)) at the disk's map. -/
import Derived.Test.YtekolejeliefdaaGreatLayI
import Derived.Test.YtekolejeliefdaaGreatDiskB
set_option linter.unusedVariables false
set_option linter.unusedSimpArgs false
namespace Go.Proofs.YtekolejeliefdaaGreat
open Go.RowKit Go.Maps Go.Sort Go.Shelf

theorem sortsZ (m : Nat) : AnyZI.SortsIn Tryz.prog sortedZ_ren Fence.wide m :=
  ⟨fun blk off cap ss W hH hblk hsz => callsIn_wide.2 (AnyM.slices_Sort_int sortZ blk off cap ss W hH hblk hsz),
   fun p cap W => callsIn_wide.2 (AnyM.slices_Sort_int_none sortZ p cap W)⟩

theorem keys_any (mb : Option Nat) (w : World) : Calls Tryz.prog 188 #[.map mb] w fun e w' =>
    e = .returned (.func (.func 192) #[] #[.pointer (some ⟨w.heap.size, 0, none⟩)]) ∧ w' = w.alloc (.cells #[.map mb] 107) :=
  (callsIn_wide (n := 5)).1 (AnyZI.keys_in keysZ Fence.wide 5 trivial rfl mb w)

theorem mI_keys (l : ME) : intKeys (mD l) = l.map (fun p => Go.intOf p.1) := by simp [mD, intKeys]

theorem sorted_any {w : World} {m k : Nat} {l : ME} (hm : MapL Tryz.prog 3 w m l) (hk : w.cell? ⟨k, 0, none⟩ = some (.map (some m))) (hkl : k < w.heap.size) (hl : l.length ≤ 1073741824) :
    Calls Tryz.prog 187 #[.func (.func 192) #[] #[.pointer (some ⟨k, 0, none⟩)]] w fun e w' => ∃ v, e = .returned v ∧
      w'.ownsRow w.heap.size 3 1 v l.length (((l.map (fun p => Go.intOf p.1)).mergeSort (fun x y => decide (x ≤ y))).map encZ) ∧ Below w.heap.size w w' := by
  have hml : m < w.heap.size := hm.lt
  have hseq : SeqGives Fence.wide 2 Tryz.prog 192 #[.pointer (some ⟨k, 0, none⟩)] encZ (fun ss => ss.Perm (intKeys (mD l))) (Maps.size (mD l)) w :=
    AnyZI.keys_gives (ρ := keysZ_ren) { keysZ with } Fence.wide _ trivial rfl (by omega) k m l.length (mD l) _ hkl hk hm
  rw [mD_size, mI_keys] at hseq
  have cS := AnyZI.sorted_in sortedZ Fence.wide 5 trivial trivial trivial trivial rfl (by omega) (sortsZ _) (enters_of Tryz.func191 (by kernel_rfl) rfl) 192 #[.pointer (some ⟨k, 0, none⟩)] trivial (enters_of Tryz.func192 (by kernel_rfl) rfl) _ l.length (by simp only [maxLen]; omega) (by omega) _ hseq
  refine ((callsIn_wide (n := 5)).1 cS).mono ?_
  rintro e w' ⟨v, ss, rfl, hS, hrow, hnil, hb⟩
  have e1 := mergeSort_of_perm_i hS
  refine ⟨v, rfl, ?_, hb⟩
  have hlen : ss.length = l.length := by rw [hS.length_eq]; simp
  rw [e1, hlen] at hrow
  exact hrow

/-- The disk's written sectors, in order. -/
theorem DRel.keys {X : Nat → Prop} {w : World} {z : Nat} : ∀ {l : ME} {d : List (Nat × List UInt8)}, DRel X w z l d → l.map (fun p => Go.intOf p.1) = d.map (fun q => (q.1 : Int))
  | [], [], _ => rfl
  | p :: l, q :: d, h => by
    rw [List.map_cons, List.map_cons, DRel.keys h.2.2, h.1]
    rfl
theorem sorted_keys (d : List (Nat × List UInt8)) (h : d.Pairwise (fun p q => p.1 < q.1)) : (d.map (fun q => (q.1 : Int))).mergeSort (fun x y => decide (x ≤ y)) = d.map (fun q => (q.1 : Int)) := by
  refine List.mergeSort_of_pairwise ?_
  rw [List.pairwise_map]
  exact h.imp (fun hpq => by simp; omega)
end Go.Proofs.YtekolejeliefdaaGreat
