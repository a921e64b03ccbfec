/- A slice of slices of texts in memory, and how such an argument reads. -/
import Derived.Test.YtncpeaamfmfcgaaGreatOpen
import Derived.Deep.Slices
namespace Go.Proofs.YtncpeaamfmfcgaaGreat
open Go.ChangeShapes Go.WideShapes Go.ChangeAt Go.RowKit Go.Deep
open Go.ChangeMaps (open_string shut_string)

/-- The slice value v holds slices that hold the texts of l. -/
def GroupsIn (w : World) (v : Value) (l : List (List ByteArray)) : Prop :=
  ∃ a cap, v = .slice a l.length cap ∧ ∀ (k : Nat) (h : k < l.length), ∃ b off vk, a = some ⟨b, off, none⟩ ∧ b < w.heap.size ∧ w.cell? ⟨b, off + k, none⟩ = some vk ∧ Strs w vk l[k]
theorem GroupsIn.later {w w' : World} {v : Value} {l : List (List ByteArray)} (h : GroupsIn w v l) (hb : Below w.heap.size w w') : GroupsIn w' v l := by
  obtain ⟨a, cap, hv, hc⟩ := h
  refine ⟨a, cap, hv, fun k hk => ?_⟩
  obtain ⟨b, off, vk, ha, hlt, h1, h2⟩ := hc k hk
  exact ⟨b, off, vk, ha, Nat.lt_of_lt_of_le hlt hb.size, (hb.cell (p := ⟨b, off + k, none⟩) hlt).trans h1, h2.later hb⟩

set_option maxRecDepth 100000 in
theorem texts_of_trod {H : Type} {enc : TypeId × Value → H} {W : World} {v : Value} {fuel : Nat} {x : DataW H × List MemPlace} (hf : DataW.trod enc Tryz.prog W 0 (fun _ => true) true fuel 22 [v] = some x) :
    ∃ l, Strs W v l ∧ l.length ≤ maxLen ∧ ∀ s ∈ l, s.size ≤ maxLen := by
  rcases open_strings Tryz.underlying22 Tryz.underlying9 (by kernel_rfl) hf with ⟨hcs, _⟩ | ⟨a, len', cap', ss, hcs, _, hl, hm, hz, _, hcell, hws⟩
  · injection hcs with hcs _
    subst hcs
    exact ⟨[], Strs.nil W, Nat.zero_le _, by simp⟩
  · injection hcs with hcs _
    subst hcs
    have hz' : ss.length = cap' := by simpa using hz
    exact ⟨ss.take len', strs_of_cells hl (by omega) hcell, by rw [List.length_take]; omega, fun s hs => hws s (List.mem_of_mem_take hs)⟩

set_option maxRecDepth 100000 in
theorem open_groups {H : Type} {enc : TypeId × Value → H} {W : World} {v : Value} {d : DataW H} {p : List MemPlace}
    {base : Nat} (hval : Value.okWide Tryz.prog W .any base 35 v) (h : DataW.Trod enc Tryz.prog W 0 (fun _ => true) true 35 v d p) :
    ∃ l, GroupsIn W v l ∧ l.length ≤ maxLen ∧ ∀ g ∈ l, g.length ≤ maxLen ∧ ∀ s ∈ g, s.size ≤ maxLen := by
  obtain ⟨a0, len, cap, rfl⟩ := okWide_slice Tryz.underlying35 hval
  obtain ⟨fuel, hf⟩ := h
  rcases open_slice1 Tryz.underlying35 (by kernel_rfl) hf with ⟨hcs, -⟩ | ⟨a, len', cap', m, n, V, D, Pl, hcs, -, hl, hm, hmm, -, hi⟩
  · simp [Value.cells] at hcs
    obtain ⟨rfl, rfl, rfl⟩ := hcs
    exact ⟨[], ⟨none, 0, rfl, fun k hk => absurd hk (by simp)⟩, Nat.zero_le _, by simp⟩
  · simp [Value.cells] at hcs
    obtain ⟨rfl, rfl, rfl⟩ := hcs
    have hm' : m = cap := by simpa using hmm
    have hx : ∀ i, i < len → ∃ g : List ByteArray, ∃ vk, W.cell? (a.add i) = some vk ∧ Strs W vk g ∧ g.length ≤ maxLen ∧ ∀ s ∈ g, s.size ≤ maxLen := by
      intro i hil
      obtain ⟨hc, ht⟩ := hi i (by omega)
      obtain ⟨g, h1, h2, h3⟩ := texts_of_trod ht
      exact ⟨g, V i, hc, h1, h2, h3⟩
    let f : Nat → List ByteArray := fun i => if h : i < len then Classical.choose (hx i h) else []
    have hfi : ∀ i (h : i < len), _ := fun i h => (show f i = Classical.choose (hx i h) from dif_pos h) ▸ Classical.choose_spec (hx i h)
    refine ⟨(List.range len).map f, ?_, by rw [List.length_map, List.length_range]; omega, fun g hg => ?_⟩
    · by_cases h0 : len = 0
      · subst h0; exact ⟨some a, cap, rfl, fun k hk => absurd hk (by simp)⟩
      · obtain ⟨v0, h1, -⟩ := hfi 0 (by omega)
        obtain ⟨b, off, spot⟩ := a
        have hsp : spot = none := by
          cases spot with
          | none => rfl
          | some x => simp [Addr.add, World.cell?] at h1; split at h1 <;> simp at h1
        subst hsp
        have hadd : ∀ i, (⟨b, off, none⟩ : Addr).add i = ⟨b, off + i, none⟩ := by intro i; unfold Addr.add; split <;> simp_all
        refine ⟨some ⟨b, off, none⟩, cap, by rw [List.length_map, List.length_range], fun k hk => ?_⟩
        have hk' : k < len := by simpa using hk
        obtain ⟨vk, h2, h3, -⟩ := hfi k hk'
        rw [hadd] at h2
        rw [List.getElem_map, List.getElem_range]
        exact ⟨b, off, vk, rfl, World.block_lt_of_cell? _ _ h2, h2, h3⟩
    · obtain ⟨i, hi2, rfl⟩ := List.mem_map.1 hg
      obtain ⟨vk, -, -, h4, h5⟩ := hfi i (List.mem_range.1 hi2)
      exact ⟨h4, h5⟩

end Go.Proofs.YtncpeaamfmfcgaaGreat
