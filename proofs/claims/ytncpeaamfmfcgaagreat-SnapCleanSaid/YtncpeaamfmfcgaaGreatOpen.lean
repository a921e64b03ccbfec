/- How the arguments of the laws read: texts, and slices of texts, as the walks ask for them. -/
import Derived.Test.YtncpeaamfmfcgaaGreatRows
import Derived.Test.YtncpeaamfmfcgaaGreatBase
import Derived.ProofKit
import Derived.OpenShut
import Derived.ShutString
namespace Go.Proofs.YtncpeaamfmfcgaaGreat
open Go.ChangeShapes Go.WideShapes Go.ChangeAt Go.RowKit
open Go.ChangeMaps (open_string shut_string)

theorem own : ownKnob Tryz.prog.godebug = none := by kernel_rfl
theorem laidOut : laidOutB Tryz.prog = true := by kernel_rfl

theorem strs_of_cells {w : World} {v : Addr} {len cap : Nat} {ss : List ByteArray} (hlc : len ≤ cap) (hl : len ≤ ss.length)
    (hc : ∀ i, i < ss.length → w.cell? (v.add i) = some (.string (ss.getD i ByteArray.empty))) : Strs w (.slice (some v) len cap) (ss.take len) := by
  have hlen : (ss.take len).length = len := by rw [List.length_take]; omega
  by_cases h0 : len = 0
  · subst h0; exact ⟨some v, cap, rfl, Nat.zero_le _, (fun h => by cases h), fun k hk => absurd hk (by simp)⟩
  · have h1 := hc 0 (by omega)
    obtain ⟨b, off, spot⟩ := v
    have hsp : spot = none := by
      cases spot with
      | none => rfl
      | some x => simp [Addr.add, World.cell?] at h1; split at h1 <;> simp at h1
    subst hsp
    have hadd : ∀ i, (⟨b, off, none⟩ : Addr).add i = ⟨b, off + i, none⟩ := by intro i; unfold Addr.add; split <;> simp_all
    have hmk : Strs w (.slice (some ⟨b, off, none⟩) (ss.take len).length cap) (ss.take len) := Strs.of ?_ (by omega) fun k hk => ?_
    rw [hlen] at hmk; exact hmk
    · have := World.block_lt_of_cell? _ _ h1
      rwa [hadd] at this
    · have := hc k (by omega)
      rw [hadd] at this
      rw [this, List.getElem_take, List.getD_eq_getElem?_getD, List.getElem?_eq_getElem (by omega)]; rfl

set_option maxRecDepth 100000 in
theorem open_texts {H : Type} {enc : TypeId × Value → H} {W : World} {v : Value} {d : DataW H} {p : List MemPlace}
    {base : Nat} (hval : Value.okWide Tryz.prog W .any base 22 v) (h : DataW.Trod enc Tryz.prog W 0 (fun _ => true) true 22 v d p) :
    ∃ l, Strs W v l ∧ l.length ≤ maxLen ∧ ∀ s ∈ l, s.size ≤ maxLen := by
  obtain ⟨a0, len, cap, rfl⟩ := okWide_slice Tryz.underlying22 hval
  obtain ⟨fuel, hf⟩ := h
  rcases open_strings Tryz.underlying22 Tryz.underlying9 (by kernel_rfl) hf with ⟨hcs, _⟩ | ⟨a, len', cap', ss, hcs, _, hl, hm, hz, _, hcell, hws⟩
  · simp [Value.cells] at hcs
    obtain ⟨rfl, rfl, rfl⟩ := hcs
    exact ⟨[], Strs.nil W, Nat.zero_le _, by simp⟩
  · simp [Value.cells] at hcs
    obtain ⟨rfl, rfl, rfl⟩ := hcs
    have hz' : ss.length = cap := by simpa using hz
    exact ⟨ss.take len, strs_of_cells hl (by omega) hcell, by rw [List.length_take]; omega, fun s hs => hws s (List.mem_of_mem_take hs)⟩

theorem int_in {n : Int} (h : (Lit.int .i64 n).wf = true) : -9223372036854775808 ≤ n ∧ n ≤ 9223372036854775807 := by
  have := bounds_i64 h; omega

end Go.Proofs.YtncpeaamfmfcgaaGreat
