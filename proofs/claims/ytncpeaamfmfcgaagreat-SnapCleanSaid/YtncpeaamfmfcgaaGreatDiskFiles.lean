/- Files: the names, sorted; Twin: the disk once more. -/
import Derived.Test.YtncpeaamfmfcgaaGreatDiskMore
import Derived.Test.YtncpeaamfmfcgaaGreatIter
import Derived.Sort.KeysCollected
namespace Go.Proofs.YtncpeaamfmfcgaaGreat
open Go.RowKit

/-- The names of the files, as lists of bytes, sorted. -/
def keysOf (l : List FE) : List (List UInt8) := (l.map fun f => f.name.data.toList).mergeSort Go.leB
def namesOf (l : List FE) : List ByteArray := (keysOf l).map fun b => ⟨b.toArray⟩

def anyElem (_ : Value) : Option (DataW Unit × List MemPlace) := some (.nil, [])

theorem rd_ent (f : FE) (h : f.name.size ≤ maxLen) : Go.WideElems.rd Tryz.prog 9 anyElem f.ent = some (.string f.name.data.toList, .nil) := by
  unfold Go.WideElems.rd
  rw [show f.ent.key = .string f.name from rfl, Go.WideMaps.keyOf_string_mk Tryz.underlying9 h]; rfl
theorem rg_ent (f : FE) (h : f.name.size ≤ maxLen) : Go.WideElems.rg Tryz.prog 9 anyElem f.ent = (.string f.name.data.toList, .nil) := by
  unfold Go.WideElems.rg; rw [rd_ent f h]; rfl

theorem name_inj {l : List FE} (h : Apart l) : ((l.map FE.ent).map (·.key)).Nodup := by
  rw [List.map_map]
  refine List.pairwise_map.2 (List.Pairwise.imp ?_ h)
  intro f g hne he
  exact hne (Value.string.inj he)

set_option maxRecDepth 100000 in
/-- What the map reads as. -/
theorem owns_files {w : World} {m c : Nat} {l : List FE} (hm : w.heap[m]? = some (mapOf l c)) (hs : Stamps l c) (ha : Apart l) (hn : ∀ f ∈ l, f.name.size ≤ maxLen) (hl : l.length ≤ maxLen) :
    ∃ D : DataW Unit, w.ownsMap Tryz.prog 9 anyElem m l.length D ∧ Go.Maps.size D = l.length ∧ (Go.strKeys D).Perm (l.map fun f => f.name.data.toList) := by
  refine ⟨_, ⟨entsOf l, c, hm, ⟨by simpa [entsOf] using hl, ⟨fun x hx => ?_, ?_, ?_⟩, fun x hx => ?_⟩, by simp [entsOf], rfl⟩, ?_, ?_⟩
  · obtain ⟨f, hf, rfl⟩ := mem_ents hx; exact hs.old f hf
  · rw [entsOf_born]; exact hs.once
  · rw [entsOf, List.toList_toArray]; exact name_inj ha
  · obtain ⟨f, hf, rfl⟩ := mem_ents hx; exact ⟨_, rd_ent f (hn f hf)⟩
  · show List.length _ = _
    rw [length_sorted, List.length_map, entsOf, List.toList_toArray, List.length_map]
  · show (List.map _ _).Perm _
    refine ((Go.WideShapes.sorted_perm _).map _).trans ?_
    rw [entsOf, List.toList_toArray, List.map_map, List.map_map]
    refine List.Perm.of_eq (List.map_congr_left fun f hf => ?_)
    show Go.strOf (Go.WideElems.rg Tryz.prog 9 anyElem f.ent).1 = _
    rw [rg_ent f (hn f hf)]; rfl

set_option maxHeartbeats 2000000 in
set_option maxRecDepth 100000 in
theorem files_any (d m : Nat) (S : St) (w : World) (h : IsDisk w d m S) (hs : Stamps S.files S.clock) (ha : Apart S.files) (hn : ∀ f ∈ S.files, f.name.size ≤ 40) (hl : S.files.length ≤ 1000) :
    Calls Tryz.prog 22 #[.pointer (some ⟨d, 0, none⟩)] w fun e w' => ∃ v, e = .returned v ∧ Strs w' v (namesOf S.files) ∧ Below w.heap.size w w' := by
  obtain ⟨D, hown, hsz, hperm⟩ := owns_files h.map hs ha (fun f hf => by have := hn f hf; unfold maxLen; omega) (by unfold maxLen; omega)
  obtain ⟨-, -, -, -, c4, -⟩ := h.facts
  have hlt := h.lt.1
  have HOWN := Lib.hid hown
  have HSZ := Lib.hid hsz
  have HL := Lib.hid hl
  clear h hown hsz hs ha hn hl
  refine (callsIn_wide (n := 6)).1 ?_
  have hfK : Fence.wide.fn 55 := trivial
  have hfS : Fence.wide.fn 54 := trivial
  refine callsIn_of_wp Tryz.func22 rfl trivial ?_ rfl
  simp only [Tryz.ntmps22, List.size_toArray, List.length_cons, List.length_nil, Nat.reduceAdd, Nat.reduceSub, Array.replicate_succ, Array.replicate_zero, List.push_toArray, List.append_toArray, List.nil_append, List.cons_append]
  gi_wp2_with (first
    | (gi_at_call 55; refine (Tryz.maps_Keys_55 _ _).mono ?_; rintro e w' ⟨rfl, rfl⟩)
    | (gi_at_call 54; refine (Tryz.slices_Sorted_keys_54_55 m S.files.length D anyElem w HOWN.out (by have := HSZ.out; have := HL.out; unfold maxLen; omega) (by have := HSZ.out; have := HL.out; omega)).mono ?_; rintro e w' ⟨v, ss, rfl, hS, hrow, hnil, hb⟩))
  go_ret
  refine ⟨v, rfl, ?_, ((Below.refl _ w).alloc (Nat.le_refl _) _).trans (hb.mono (by simp))⟩
  have e1 : ss.mergeSort (fun x y => decide (x ≤ y)) = keysOf S.files := Go.mergeSort_of_perm (hS.trans hperm)
  have e2 : (keysOf S.files).map Go.Proofs.encStr = (namesOf S.files).map Value.string := by
    unfold namesOf; rw [List.map_map]; rfl
  have e3 : ss.length = (namesOf S.files).length := by
    unfold namesOf; rw [List.length_map, ← e1, List.length_mergeSort]
  rw [e1, e2, e3] at hrow
  exact strs_of_own hrow

end Go.Proofs.YtncpeaamfmfcgaaGreat
