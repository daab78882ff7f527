/- The store's statements: pairs that a batch is made of. -/
import Derived.Test.YtekolejeliefdaaGreatStQ
set_option linter.unusedVariables false
set_option linter.unusedSimpArgs false
namespace Go.Proofs.YtekolejeliefdaaGreat
open Go.RowKit

theorem ablk (a : Addr) (n : Nat) : (a.add n).block = a.block := by unfold Addr.add; split <;> rfl
/-- Pairs that came in: a key's number, a length, whether it goes. -/
abbrev PI := Nat × Nat × Bool
def PIn (w : World) (v : Value) (n : Nat) (L : List PI) : Prop :=
  n ≤ maxLen ∧ L.length = n ∧ (∀ q ∈ L, q.1 < 256 ∧ q.2.1 < 256) ∧ ∃ a c, v = .slice a n c ∧ (n = 0 ∨ ∃ x, a = some x ∧ x.block < w.heap.size ∧ ∀ i q, L[i]? = some q →
    w.cell? (x.add (i * 3)) = some (.int .u8 q.1) ∧ w.cell? ⟨(x.add (i * 3)).block, (x.add (i * 3)).off + 1, none⟩ = some (.int .u8 q.2.1) ∧ w.cell? ⟨(x.add (i * 3)).block, (x.add (i * 3)).off + 2, none⟩ = some (.bool q.2.2))
theorem PIn.ext {w w' : World} {v : Value} {n : Nat} {L : List PI} (h : PIn w v n L) (hB : Below w.heap.size w w') : PIn w' v n L := by
  obtain ⟨h1, h2, h3, a, c, rfl, h4⟩ := h
  refine ⟨h1, h2, h3, a, c, rfl, ?_⟩
  rcases h4 with h4 | ⟨x, rfl, hx, h4⟩
  · exact .inl h4
  · refine .inr ⟨x, rfl, Nat.lt_of_lt_of_le hx hB.size, fun i q hq => ?_⟩
    obtain ⟨k1, k2, k3⟩ := h4 i q hq
    refine ⟨?_, ?_, ?_⟩
    · rw [hB.cell (p := x.add (i * 3)) (by rw [ablk]; exact hx)]
      exact k1
    · rw [hB.cell (p := ⟨(x.add (i * 3)).block, (x.add (i * 3)).off + 1, none⟩) (by show (x.add (i * 3)).block < _; rw [ablk]; exact hx)]
      exact k2
    · rw [hB.cell (p := ⟨(x.add (i * 3)).block, (x.add (i * 3)).off + 2, none⟩) (by show (x.add (i * 3)).block < _; rw [ablk]; exact hx)]
      exact k3
/-- The pairs of a batch, the first one's number being i. -/
def psF : Nat → List PI → List SP
  | _, [] => []
  | i, q :: L => (keyF q.1, valF i q.2.1, q.2.2) :: psF (i + 1) L
theorem psF_length : ∀ (i : Nat) (L : List PI), (psF i L).length = L.length
  | _, [] => rfl
  | i, q :: L => by simp [psF, psF_length (i + 1) L]
theorem psF_at : ∀ (i : Nat) (L : List PI) (k : Nat) (q : PI), L[k]? = some q → (psF i L)[k]? = some (keyF q.1, valF (i + k) q.2.1, q.2.2)
  | i, [], k, q, h => by simp at h
  | i, p :: L, 0, q, h => by
    simp only [List.getElem?_cons_zero, Option.some.injEq] at h
    subst h
    rfl
  | i, p :: L, k + 1, q, h => by
    have := psF_at (i + 1) L k q (by simpa using h)
    simp only [psF, List.getElem?_cons_succ, this]
    congr 4
    omega
theorem psF_mem {i : Nat} {L : List PI} {p : SP} (h : p ∈ psF i L) : ∃ j q, q ∈ L ∧ p = (keyF q.1, valF j q.2.1, q.2.2) := by
  induction L generalizing i with
  | nil => cases h
  | cons q L ih =>
    rcases List.mem_cons.1 h with rfl | h
    · exact ⟨i, q, List.mem_cons_self, rfl⟩
    · obtain ⟨j, q', h1, h2⟩ := ih h
      exact ⟨j, q', List.mem_cons_of_mem _ h1, h2⟩
theorem keyF_mem (k : Nat) : keyF k ∈ keysF := by
  have h7 : k % 7 < 7 := Nat.mod_lt _ (by omega)
  unfold keyF
  have h : k % 7 < keysF.length := h7
  rw [List.getElem?_eq_getElem h]
  exact List.getElem_mem h
theorem keyOk_batch (i : Nat) (L : List PI) (hL : ∀ q ∈ L, q.1 < 256 ∧ q.2.1 < 256) : KeyOk (chg [] (psF i L)) := by
  refine ⟨chg_nodup (by simp) _, ?_⟩
  refine chg_all (F := fun q => q.1 ∈ keysF ∧ q.2.length ≤ 255) (by simp) ?_
  intro p hp
  obtain ⟨j, q, hq, rfl⟩ := psF_mem hp
  refine ⟨keyF_mem _, ?_⟩
  have := (hL q hq).2
  rw [valF_length]
  omega

theorem ext_drew0 (w : World) : Ext (fun _ => False) w w.drew := (Ext.refl _ w).drew
theorem pairs_end {w wr W6 W7 : World} {mb pb : Nat} {D : SM} {v : Value} {n : Nat} {cs : List Value} {row : Array Value} (ho : wr.ownsRow w.heap.size 54 3 v n cs) (hm : SMap wr mb D) (hx : Ext (· = mb) w wr) (hmb : mb < w.heap.size)
    (x6 : Ext (fun _ => False) wr W6) (hb : W6.heap[pb]? = some (.cells row 54 (0, 0))) (hp : wr.heap.size ≤ pb) (hg : W6.grownBy W7 v.ownBlock) :
    W7.heap[pb]? = some (.cells row 54 (0, 0)) ∧ SMap W7 mb D ∧ Ext (· = mb) w W7 := by
  have hl := ho.lt
  have hs := x6.size
  have x7 : Ext (fun k => w.heap.size ≤ k ∧ k < wr.heap.size) W6 W7 := Ext.of_grown hg fun k hk => hl k hk
  refine ⟨(x7.block pb (lt_of_heap hb) (by omega)).trans hb, MapL.kept hm ((x7.block mb (by have := MapL.lt hm; omega) (by omega)).trans (x6.block mb (MapL.lt hm) id)), ?_⟩
  exact (hx.trans (x6.mono fun _ _ q => q.elim)).andThen x7 fun i hi hq => by omega
theorem spcells_snoc (ps : List SP) (p : SP) : spcells (ps ++ [p]) = spcells ps ++ [bstr p.1, bstr p.2.1, .bool p.2.2] := by simp [spcells]

set_option maxRecDepth 100000 in
set_option maxHeartbeats 8000000 in
theorem pairs_any {w : World} {mb : Nat} {d : SM} {v : Value} {n : Nat} {L : List PI} (i : Nat) (hi : i ≤ 100) (hv : PIn w v n L) (hn : n ≤ 20) (h : SMap w mb d) (hd : d.length ≤ 1000) :
    Calls Tryz.prog 21 #[.int .i64 i, v, .map (some mb)] w fun e w' => ∃ a c, e = .returned (.slice a n c) ∧
      Hid (w'.ownsRow w.heap.size 54 3 (.slice a n c) n (spcells (psF i L)) ∧ SMap w' mb (chg d (psF i L)) ∧ Ext (· = mb) w w') := by
  obtain ⟨hm, hL, h256, a, c, rfl, hcells⟩ := hv
  have hn2 : (n : Int) ≤ 20 := by omega
  have hi2 : (i : Int) ≤ 100 := by omega
  have hmb := MapL.lt h
  have hmc := fun (cs : Array Value) (e : TypeId) (fr : Nat × Nat) => MapL.noCells h cs e fr
  have H := Lib.hid (And.intro hL (And.intro h256 (And.intro hcells (And.intro h (And.intro hd (And.intro hmb hmc))))))
  clear hL h256 hcells h hd hmb hmc hm
  go_enter Tryz.func21, Tryz.ntmps21
  go_wp2_with fail
  go_loopw [7, 8, 9] (fun ov iv _ wr => ∃ (j : Nat) (a7 : Option Addr) (c7 : Nat), j ≤ n ∧ iv = .int .i64 j ∧ ov = .slice a7 j c7 ∧ Hid (wr.ownsRow w.heap.size 54 3 (.slice a7 j c7) j (spcells ((psF i L).take j)) ∧ SMap wr mb (chg d ((psF i L).take j)) ∧ Ext (· = mb) w wr)) (fun _ iv _ _ => n - (intOf iv).toNat)
  case atStart => exact ⟨0, none, 0, by omega, rfl, rfl, ⟨rfl, .inl ⟨rfl, rfl⟩⟩, H.out.2.2.2.1, Ext.refl _ _⟩
  case round =>
    obtain ⟨j, a7, c7, hj, rfl, rfl, hin⟩ := hrel
    by_cases hjn : j < n
    · obtain ⟨q, hq⟩ : ∃ q, L[j]? = some q := ⟨_, List.getElem?_eq_getElem (by have := H.out.1; omega)⟩
      obtain ⟨k, m, g⟩ := q
      obtain ⟨hk, hmm⟩ := H.out.2.1 _ (List.mem_of_getElem? hq)
      simp only at hk hmm
      obtain ⟨x, rfl, hx, hcs⟩ := (H.out.2.2.1).resolve_left (by omega)
      have cells : ∀ W, Ext (· = mb) w W → W.cell? (x.add (j * 3)) = some (.int .u8 k) ∧ W.cell? ⟨(x.add (j * 3)).block, (x.add (j * 3)).off + 1, none⟩ = some (.int .u8 m) ∧ W.cell? ⟨(x.add (j * 3)).block, (x.add (j * 3)).off + 2, none⟩ = some (.bool g) := by
        intro W he
        obtain ⟨e0, e1, e2⟩ := hcs j _ hq
        have hxm : x.block ≠ mb := by
          rintro rfl
          have hc : w.cell? (x.add (j * 3)) ≠ none := by rw [e0]; simp
          unfold World.cell? at hc
          rw [ablk] at hc
          cases hh : w.heap[x.block]? with
          | none => simp [hh] at hc
          | some o =>
            cases o with
            | cells cs e fr => exact H.out.2.2.2.2.2.2 _ _ _ hh
            | _ => simp [hh] at hc
        have hb := he.block x.block hx hxm
        refine ⟨?_, ?_, ?_⟩
        · rw [← e0]; unfold World.cell?; rw [ablk, hb]
        · rw [← e1]; unfold World.cell?; simp only [ablk]; rw [hb]
        · rw [← e2]; unfold World.cell?; simp only [ablk]; rw [hb]
      have HC := Lib.hid cells
      obtain ⟨A, hA⟩ : ∃ A, x.add (j * 3) = A := ⟨_, rfl⟩
      have hpt := psF_at i L j _ hq
      have hch := chg_take d (psF i L) j _ hpt
      have hsp : (psF i L).take (j + 1) = (psF i L).take j ++ [(keyF k, valF (i + j) m, g)] := by rw [List.take_add_one, hpt]; rfl
      have HKY := Lib.hid (fun W => (show Calls Tryz.prog 58 #[.int .u8 (k : Int)] W fun e w' => e = .returned (.string ⟨(keyF k).toArray⟩) ∧ Ext (fun _ => False) W w' from key_any k hk W))
      have HVA := Lib.hid (fun W => (show Calls Tryz.prog 59 #[.int .i64 ((i : Int) + (j : Int)), .int .i64 (m : Int)] W fun e w' => e = .returned (.string ⟨(valF (i + j) m).toArray⟩) ∧ Ext (fun _ => False) W w' by
        have := value_any (i + j) m (by omega) (by omega) W
        rwa [Int.natCast_add] at this))
      have HIN := Lib.hid (And.intro hin.out (And.intro hch hsp))
      have hS : ∀ W, Ext (fun _ => False) wr.drew W → W.cell? (x.add (j * 3)) = some (.int .u8 k) ∧ W.cell? ⟨(x.add (j * 3)).block, (x.add (j * 3)).off + 1, none⟩ = some (.int .u8 m) ∧ W.cell? ⟨(x.add (j * 3)).block, (x.add (j * 3)).off + 2, none⟩ = some (.bool g) :=
        fun W he => HC.out W (hin.out.2.2.drew.trans (he.mono fun _ _ q => q.elim))
      have hS0 := hS _ (Ext.refl _ _)
      have HS := Lib.hid hS
      clear hin hq hcs hx hpt hch hsp cells hk hS hA
      go_wp2_with fail
      refine region_X (fun W => W.cell? (x.add (j * 3)) = some (.int .u8 k) ∧ W.cell? ⟨(x.add (j * 3)).block, (x.add (j * 3)).off + 1, none⟩ = some (.int .u8 m) ∧ W.cell? ⟨(x.add (j * 3)).block, (x.add (j * 3)).off + 2, none⟩ = some (.bool g)) (by kernel_rfl) ?_
      simp only [List.length_cons, List.length_nil, Nat.reduceAdd]
      refine AnyX.take 0 rfl (by kernel_rfl) (fun _ _ _ h => h) hS0 rfl (by rintro W ⟨s0, s1, s2⟩; go_simp; rfl) ?_; simp only [Act.put, List.setIfInBounds_toArray, List.set_cons_succ, List.set_cons_zero]
      refine AnyX.take 1 rfl (by kernel_rfl) (fun _ _ _ h => h) hS0 rfl (by rintro W ⟨s0, s1, s2⟩; go_simp; rfl) ?_; simp only [Act.put, List.setIfInBounds_toArray, List.set_cons_succ, List.set_cons_zero]
      refine AnyX.take 2 rfl (by kernel_rfl) (fun _ _ _ h => h) hS0 rfl (by rintro W ⟨s0, s1, s2⟩; go_simp; rfl) ?_; simp only [Act.put, List.setIfInBounds_toArray, List.set_cons_succ, List.set_cons_zero]
      refine AnyX.take 3 rfl (by kernel_rfl) (fun _ _ _ h => h) hS0 rfl (by rintro W ⟨s0, s1, s2⟩; go_simp; rfl) ?_; simp only [Act.put, List.setIfInBounds_toArray, List.set_cons_succ, List.set_cons_zero]
      refine AnyX.take 4 rfl (by kernel_rfl) (fun _ _ _ h => h) hS0 rfl (by rintro W ⟨s0, s1, s2⟩; go_simp; rfl) ?_; simp only [Act.put, List.setIfInBounds_toArray, List.set_cons_succ, List.set_cons_zero]
      refine AnyX.take 6 rfl (by kernel_rfl) (fun _ _ _ h => h) hS0 rfl (by rintro W ⟨s0, s1, s2⟩; go_simp; rfl) ?_; simp only [Act.put, List.setIfInBounds_toArray, List.set_cons_succ, List.set_cons_zero]
      refine AnyX.take 7 rfl (by kernel_rfl) (fun _ _ _ h => h) hS0 rfl (by rintro W ⟨s0, s1, s2⟩; go_simp; rfl) ?_; simp only [Act.put, List.setIfInBounds_toArray, List.set_cons_succ, List.set_cons_zero]
      refine AnyX.take 8 rfl (by kernel_rfl) (fun _ _ _ h => h) hS0 rfl (by rintro W ⟨s0, s1, s2⟩; go_simp; rfl) ?_; simp only [Act.put, List.setIfInBounds_toArray, List.set_cons_succ, List.set_cons_zero]
      refine AnyX.take 9 rfl (by kernel_rfl) (fun _ _ _ h => h) hS0 rfl (by rintro W ⟨s0, s1, s2⟩; go_simp; rfl) ?_; simp only [Act.put, List.setIfInBounds_toArray, List.set_cons_succ, List.set_cons_zero]
      refine AnyX.take 10 rfl (by kernel_rfl) (fun _ _ _ h => h) hS0 rfl (by rintro W ⟨s0, s1, s2⟩; go_simp; rfl) ?_; simp only [Act.put, List.setIfInBounds_toArray, List.set_cons_succ, List.set_cons_zero]
      refine AnyX.take 11 rfl (by kernel_rfl) (fun _ _ _ h => h) hS0 rfl (by rintro W ⟨s0, s1, s2⟩; go_simp; rfl) ?_; simp only [Act.put, List.setIfInBounds_toArray, List.set_cons_succ, List.set_cons_zero]
      refine AnyX.take 12 rfl (by kernel_rfl) (fun _ _ _ h => h) hS0 rfl (by rintro W ⟨s0, s1, s2⟩; go_simp; rfl) ?_; simp only [Act.put, List.setIfInBounds_toArray, List.set_cons_succ, List.set_cons_zero]
      refine AnyX.take 13 rfl (by kernel_rfl) (fun _ _ _ h => h) hS0 rfl (by rintro W ⟨s0, s1, s2⟩; go_simp; rfl) ?_; simp only [Act.put, List.setIfInBounds_toArray, List.set_cons_succ, List.set_cons_zero]
      refine AnyX.take 14 rfl (by kernel_rfl) (fun _ _ _ h => h) hS0 rfl (by rintro W ⟨s0, s1, s2⟩; go_simp; rfl) ?_; simp only [Act.put, List.setIfInBounds_toArray, List.set_cons_succ, List.set_cons_zero]
      refine AnyX.take 16 rfl (by kernel_rfl) (fun _ _ _ h => h) hS0 rfl (by rintro W ⟨s0, s1, s2⟩; go_simp; rfl) ?_; simp only [Act.put, List.setIfInBounds_toArray, List.set_cons_succ, List.set_cons_zero]
      refine AnyX.take 17 rfl (by kernel_rfl) (fun _ _ _ h => h) hS0 rfl (by rintro W ⟨s0, s1, s2⟩; go_simp; rfl) ?_; simp only [Act.put, List.setIfInBounds_toArray, List.set_cons_succ, List.set_cons_zero]
      refine AnyX.take 18 rfl (by kernel_rfl) (fun _ _ _ h => h) hS0 rfl (by rintro W ⟨s0, s1, s2⟩; go_simp; rfl) ?_; simp only [Act.put, List.setIfInBounds_toArray, List.set_cons_succ, List.set_cons_zero]
      refine AnyX.take 19 rfl (by kernel_rfl) (fun _ _ _ h => h) hS0 rfl (by rintro W ⟨s0, s1, s2⟩; go_simp; rfl) ?_; simp only [Act.put, List.setIfInBounds_toArray, List.set_cons_succ, List.set_cons_zero]
      refine AnyX.take 20 rfl (by kernel_rfl) (fun _ _ _ h => h) hS0 rfl (by rintro W ⟨s0, s1, s2⟩; go_simp; rfl) ?_; simp only [Act.put, List.setIfInBounds_toArray, List.set_cons_succ, List.set_cons_zero]
      refine AnyX.act2 5 22 rfl rfl (by kernel_rfl) rfl rfl (fun K hK => ?kf) (fun K hK => ?af)
      case' kf =>
        go_wp2_with (refine (HKY.out _).mono ?_; rintro e w1 ⟨rfl, x1⟩)
        have X1 := Lib.hid ((Ext.refl _ wr.drew).trans x1)
        have hS1 := HS.out _ X1.out
        clear x1
        refine hK _ _ hS1 ?_
        clear hK K
        refine AnyX.act2 15 22 rfl rfl (by kernel_rfl) rfl rfl (fun K hK => ?vf) (fun K hK => ?af2)
      case' vf =>
        go_wp2_with (refine (HVA.out _).mono ?_; rintro e w2 ⟨rfl, x2⟩)
        have X2 := Lib.hid (X1.out.trans x2)
        have hS2 := HS.out _ X2.out
        clear x2
        refine hK _ _ hS2 ?_
        clear hK K
        refine AnyX.take 21 rfl (by kernel_rfl) (fun _ _ _ h => h) hS2 rfl (by rintro W ⟨s0, s1, s2⟩; go_simp; rfl) ?_; simp only [Act.put, List.setIfInBounds_toArray, List.set_cons_succ, List.set_cons_zero]
        refine AnyX.act 22 rfl (by kernel_rfl) rfl (fun K hK => ?_)
        go_wp2_with fail
        have X3 := Lib.hid (X2.out.alloc (.cells #[.string ⟨#[]⟩, .string ⟨#[]⟩, .bool false] 54))
        have hS3 := HS.out _ X3.out
        refine hK _ _ hS3 ?_
        clear hK K
        refine AnyX.end_ 23 rfl (by kernel_rfl) (by kernel_rfl) (by kernel_rfl) rfl ?_
        obtain ⟨W, hW⟩ : ∃ W, w2.alloc (.cells #[.string ⟨#[]⟩, .string ⟨#[]⟩, .bool false] 54) = W := ⟨_, rfl⟩
        obtain ⟨pb, hpb⟩ : ∃ pb, w2.heap.size = pb := ⟨_, rfl⟩
        have X : Hid (Ext (fun _ => False) wr.drew W) := by rw [← hW]; exact X3.out
        have hb : Hid (W.heap[pb]? = some (.cells #[.string ⟨#[]⟩, .string ⟨#[]⟩, .bool false] 54 (0, 0))) := by rw [← hW, ← hpb]; exact heap_alloc_new w2 (.cells #[.string ⟨#[]⟩, .string ⟨#[]⟩, .bool false] 54)
        have hp : Hid (wr.heap.size ≤ pb) := by rw [← hpb]; exact X2.out.size
        try rw [hW]
        try rw [hpb]
        clear hW hpb
        clear hS0 hS1 hS2 hS3 X1 X2 X3 w1 w2
      case' af2 =>
        go_wp2_with fail
        have X2 := Lib.hid (X1.out.alloc (.cells #[.string ⟨#[]⟩, .string ⟨#[]⟩, .bool false] 54))
        have hb2 := Lib.hid (heap_alloc_new w1 (.cells #[.string ⟨#[]⟩, .string ⟨#[]⟩, .bool false] 54))
        have hS2 := HS.out _ X2.out
        refine hK _ _ hS2 ?_
        clear hK K
        refine AnyX.act 15 rfl (by kernel_rfl) rfl (fun K hK => ?_)
        go_wp2_with (refine (HVA.out _).mono ?_; rintro e w2 ⟨rfl, x2⟩)
        have X3 := Lib.hid (X2.out.trans x2)
        have hb3 := Lib.hid ((x2.block _ (lt_of_heap hb2.out) id).trans hb2.out)
        have hS3 := HS.out _ X3.out
        clear x2
        refine hK _ _ hS3 ?_
        clear hK K
        refine AnyX.take 21 rfl (by kernel_rfl) (fun _ _ _ h => h) hS3 rfl (by rintro W ⟨s0, s1, s2⟩; go_simp; rfl) ?_; simp only [Act.put, List.setIfInBounds_toArray, List.set_cons_succ, List.set_cons_zero]
        refine AnyX.end_ 23 rfl (by kernel_rfl) (by kernel_rfl) (by kernel_rfl) rfl ?_
        obtain ⟨W, hW⟩ : ∃ W, w2 = W := ⟨_, rfl⟩
        obtain ⟨pb, hpb⟩ : ∃ pb, w1.heap.size = pb := ⟨_, rfl⟩
        have X : Hid (Ext (fun _ => False) wr.drew W) := by rw [← hW]; exact X3.out
        have hb : Hid (W.heap[pb]? = some (.cells #[.string ⟨#[]⟩, .string ⟨#[]⟩, .bool false] 54 (0, 0))) := by rw [← hW, ← hpb]; exact hb3.out
        have hp : Hid (wr.heap.size ≤ pb) := by rw [← hpb]; exact X1.out.size
        try rw [hW]
        try rw [hpb]
        clear hW hpb
        clear hS0 hS1 hS2 hS3 X2 X3 hb2 hb3 X1
      case' af =>
        go_wp2_with fail
        have X1 := Lib.hid ((Ext.refl (fun _ => False) wr.drew).alloc (.cells #[.string ⟨#[]⟩, .string ⟨#[]⟩, .bool false] 54))
        have hb1 := Lib.hid (heap_alloc_new wr.drew (.cells #[.string ⟨#[]⟩, .string ⟨#[]⟩, .bool false] 54))
        have hS1 := HS.out _ X1.out
        refine hK _ _ hS1 ?_
        clear hK K
        refine AnyX.act 5 rfl (by kernel_rfl) rfl (fun K hK => ?_)
        go_wp2_with (refine (HKY.out _).mono ?_; rintro e w1 ⟨rfl, x1⟩)
        have X2 := Lib.hid (X1.out.trans x1)
        have hb2 := Lib.hid ((x1.block _ (lt_of_heap hb1.out) id).trans hb1.out)
        have hS2 := HS.out _ X2.out
        clear x1
        refine hK _ _ hS2 ?_
        clear hK K
        refine AnyX.act 15 rfl (by kernel_rfl) rfl (fun K hK => ?_)
        go_wp2_with (refine (HVA.out _).mono ?_; rintro e w2 ⟨rfl, x2⟩)
        have X3 := Lib.hid (X2.out.trans x2)
        have hb3 := Lib.hid ((x2.block _ (lt_of_heap hb2.out) id).trans hb2.out)
        have hS3 := HS.out _ X3.out
        clear x2
        refine hK _ _ hS3 ?_
        clear hK K
        refine AnyX.take 21 rfl (by kernel_rfl) (fun _ _ _ h => h) hS3 rfl (by rintro W ⟨s0, s1, s2⟩; go_simp; rfl) ?_; simp only [Act.put, List.setIfInBounds_toArray, List.set_cons_succ, List.set_cons_zero]
        refine AnyX.end_ 23 rfl (by kernel_rfl) (by kernel_rfl) (by kernel_rfl) rfl ?_
        obtain ⟨W, hW⟩ : ∃ W, w2 = W := ⟨_, rfl⟩
        obtain ⟨pb, hpb⟩ : ∃ pb, wr.heap.size = pb := ⟨_, rfl⟩
        have X : Hid (Ext (fun _ => False) wr.drew W) := by rw [← hW]; exact X3.out
        have hb : Hid (W.heap[pb]? = some (.cells #[.string ⟨#[]⟩, .string ⟨#[]⟩, .bool false] 54 (0, 0))) := by rw [← hW, ← hpb]; exact hb3.out
        have hp : Hid (wr.heap.size ≤ pb) := by rw [← hpb]; exact Nat.le_refl _
        try rw [hW]
        try rw [hpb]
        clear hW hpb
        clear hS0 hS1 hS2 hS3 X2 X3 hb1 hb2 hb3 X1
      all_goals
        refine wpList_plain rfl fun K hK => ?_
        refine wp_store_row 54 (.tmp 9) (.tmp 37) rfl pb #[.string ⟨(keyF k).toArray⟩, .string ⟨(valF (i + j) m).toArray⟩, .bool g] rfl rfl _ _ hb.out (by kernel_rfl) rfl (by simp [Value.oneCell']) ?_
        refine hK _ _ ?_
        clear hK K
        have hb6 := setRow_heap W pb _ #[.string ⟨(keyF k).toArray⟩, .string ⟨(valF (i + j) m).toArray⟩, .bool g] _ _ hb.out
        have x6 : Ext (fun _ => False) wr (W.setRow pb #[.string ⟨(keyF k).toArray⟩, .string ⟨(valF (i + j) m).toArray⟩, .bool g]) := ((ext_drew0 wr).trans X.out).setRow (fun h => absurd h (by have := hp.out; omega)) _
        generalize (W.setRow pb #[.string ⟨(keyF k).toArray⟩, .string ⟨(valF (i + j) m).toArray⟩, .bool g]) = W6 at hb6 x6 ⊢
        have d0 := cell_of_block hb6 0
        have d1 := cell_of_block hb6 1
        have d2 := cell_of_block hb6 2
        simp at d0 d1 d2
        have HX6 := Lib.hid (x6.alloc (.cells #[.string ⟨(keyF k).toArray⟩, .string ⟨(valF (i + j) m).toArray⟩, .bool g] 54))
        have HB6 := Lib.hid ((heap_alloc_lt (o := .cells #[.string ⟨(keyF k).toArray⟩, .string ⟨(valF (i + j) m).toArray⟩, .bool g] 54) (lt_of_heap hb6)).trans hb6)
        have HO : Hid ((W6.alloc (.cells #[.string ⟨(keyF k).toArray⟩, .string ⟨(valF (i + j) m).toArray⟩, .bool g] 54)).ownsRow w.heap.size 54 3 (.slice a7 j c7) j (spcells ((psF i L).take j))) := own_keep HIN.out.1.1 fun b cur fr hq => (HX6.out.block b (lt_of_heap hq) id).trans hq
        have HR : Hid (Rd (W6.alloc (.cells #[.string ⟨(keyF k).toArray⟩, .string ⟨(valF (i + j) m).toArray⟩, .bool g] 54)) 54 3 (.slice (some ⟨W6.heap.size, 0, none⟩) 1 1) 1 [.string ⟨(keyF k).toArray⟩, .string ⟨(valF (i + j) m).toArray⟩, .bool g]) :=
          ⟨rfl, by simp [maxLen], 1, .inr ⟨W6.heap.size, 0, rfl, Nat.le_refl _, .inr ⟨_, (0, 0), heap_alloc_new W6 _, rfl⟩⟩⟩
        have HLE : Hid (w.heap.size ≤ (W6.alloc (.cells #[.string ⟨(keyF k).toArray⟩, .string ⟨(valF (i + j) m).toArray⟩, .bool g] 54)).heap.size) := Nat.le_trans HIN.out.1.2.2.size HX6.out.size
        have HDL : Hid (((chg d ((psF i L).take j)).length ≤ 2000) ∧ (keyF k).length ≤ 3) := by
          refine ⟨?_, keysF_len _ (keyF_mem k)⟩
          have h1 := chg_length d ((psF i L).take j)
          rw [List.length_take] at h1
          have := H.out.2.2.2.2.1
          omega
        clear hb6 x6 X
        have FIN : Hid (∀ a8 c8 W7, W7.ownsRow w.heap.size 54 3 (.slice a8 (j + 1) c8) (j + 1) (spcells ((psF i L).take j) ++ [.string ⟨(keyF k).toArray⟩, .string ⟨(valF (i + j) m).toArray⟩, .bool g]) → (W6.alloc (.cells #[.string ⟨(keyF k).toArray⟩, .string ⟨(valF (i + j) m).toArray⟩, .bool g] 54)).grownBy W7 (Value.slice a7 j c7).ownBlock →
            (W7.cell? ⟨pb, 0, none⟩ = some (.string ⟨(keyF k).toArray⟩) ∧ W7.cell? ⟨pb, 1, none⟩ = some (.string ⟨(valF (i + j) m).toArray⟩) ∧ W7.cell? ⟨pb, 2, none⟩ = some (.bool g)) ∧
            (g = true → ∃ w3, (Builtin.delete_ #[47, 9] 0 #[.map (some mb), .string ⟨(keyF k).toArray⟩]).run Tryz.prog W7 = .ok (.tuple #[]) w3 ∧
              Hid (w3.ownsRow w.heap.size 54 3 (.slice a8 (j + 1) c8) (j + 1) (spcells ((psF i L).take (j + 1))) ∧ SMap w3 mb (chg d ((psF i L).take (j + 1))) ∧ Ext (· = mb) w w3)) ∧
            (g = false → ∃ w3, (Instr.mapUpdate 47 (.map (some mb)) (.string ⟨(keyF k).toArray⟩) (.string ⟨(valF (i + j) m).toArray⟩)).run Tryz.prog W7 = .ok () w3 ∧
              Hid (w3.ownsRow w.heap.size 54 3 (.slice a8 (j + 1) c8) (j + 1) (spcells ((psF i L).take (j + 1))) ∧ SMap w3 mb (chg d ((psF i L).take (j + 1))) ∧ Ext (· = mb) w w3))) := by
          intro a8 c8 W7 o1 o2
          obtain ⟨⟨h1, h2, h3⟩, hch, hsp⟩ := HIN.out
          obtain ⟨e1, e2, e3⟩ := pairs_end h1 h2 h3 H.out.2.2.2.2.2.1 HX6.out HB6.out hp.out o2
          have hsp2 : spcells ((psF i L).take (j + 1)) = spcells ((psF i L).take j) ++ [.string ⟨(keyF k).toArray⟩, .string ⟨(valF (i + j) m).toArray⟩, .bool g] := by rw [hsp, spcells_snoc]
          have hdl := HDL.out
          refine ⟨⟨?_, ?_, ?_⟩, ?_, ?_⟩
          · rw [cell_of_block e1]; rfl
          · rw [cell_of_block e1]; rfl
          · rw [cell_of_block e1]; rfl
          · rintro rfl
            obtain ⟨w3, hrun, hm3, ht3⟩ := MapL.drop e2 (Maps.string_keyed Tryz.underlying9) Tryz.underlying47 (keyS (x := keyF k) (by omega)) 0
            rw [sME_del] at hm3
            refine ⟨w3, hrun, ?_, ?_, e3.trans (mapTurned_ext ht3)⟩
            · rw [hsp2]; exact own_keep o1 (mapTurned_keepT ht3 _)
            · rw [hch]; exact hm3
          · rintro rfl
            obtain ⟨w3, hrun, hm3, ht3⟩ := MapL.store e2 (Maps.string_keyed Tryz.underlying9) Tryz.underlying47 (by rw [sME_length]; simp only [maxLen]; omega) (keyS (x := keyF k) (by omega)) (bstr (valF (i + j) m))
            rw [sME_put] at hm3
            refine ⟨w3, hrun, ?_, ?_, e3.trans (mapTurned_ext ht3)⟩
            · rw [hsp2]; exact own_keep o1 (mapTurned_keepT ht3 _)
            · rw [hch]; exact hm3
        cases g with
        | true =>
          go_wp2_with (at_builtin; refine wpList_app rfl (.tmp 38) (.tmp 40) 49 rfl w.heap.size 54 3 40 (.agg #[.string ⟨#[]⟩, .string ⟨#[]⟩, .bool false]) Tryz.underlying49 (by kernel_rfl) rfl (by omega) (.slice a7 j c7) j _ rfl HO.out _ 1 _ 54 rfl HR.out (by intro u hu; simp only [List.mem_cons, List.not_mem_nil, or_false] at hu; rcases hu with rfl | rfl | rfl <;> rfl) (by simp only [maxLen]; omega) (by omega) HLE.out ?_; intro v7 W7 o1 o2 _; obtain ⟨a8, c8, rfl⟩ := (Rd.of_own o1).form; obtain ⟨⟨q0, q1, q2⟩, q3, _⟩ := FIN.out _ _ _ o1 o2; obtain ⟨w3, hrun, HF⟩ := q3 rfl; clear o1 o2 q3)
          exact ⟨⟨j + 1, a8, c8, by omega, by go_num, rfl, HF⟩, by simp [intOf]; omega⟩
        | false =>
          go_wp2_with (at_builtin; refine wpList_app rfl (.tmp 38) (.tmp 40) 49 rfl w.heap.size 54 3 40 (.agg #[.string ⟨#[]⟩, .string ⟨#[]⟩, .bool false]) Tryz.underlying49 (by kernel_rfl) rfl (by omega) (.slice a7 j c7) j _ rfl HO.out _ 1 _ 54 rfl HR.out (by intro u hu; simp only [List.mem_cons, List.not_mem_nil, or_false] at hu; rcases hu with rfl | rfl | rfl <;> rfl) (by simp only [maxLen]; omega) (by omega) HLE.out ?_; intro v7 W7 o1 o2 _; obtain ⟨a8, c8, rfl⟩ := (Rd.of_own o1).form; obtain ⟨⟨q0, q1, q2⟩, _, q3⟩ := FIN.out _ _ _ o1 o2; obtain ⟨w3, hrun, HF⟩ := q3 rfl; clear o1 o2 q3)
          exact ⟨⟨j + 1, a8, c8, by omega, by go_num, rfl, HF⟩, by simp [intOf]; omega⟩
    · obtain rfl : j = n := by omega
      go_wp2_with fail
      go_ret
      have h1 := hin.out
      rw [List.take_of_length_le (by rw [psF_length]; have := H.out.1; omega)] at h1
      exact ⟨_, _, rfl, h1⟩
end Go.Proofs.YtekolejeliefdaaGreat
