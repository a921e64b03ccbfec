/- Words that all walks of this seat share: slices of strings in memory. -/
import Derived.Test.YthaeojbfjfhngaaProg
import Derived.WalkKit
import Derived.WalkSpells
import Derived.WalkLawsBesides
import Derived.Lib.Hide
import Derived.Lib.Strings
import Derived.KernelRfl
namespace Go.Proofs.Ythaeojbfjfhngaa
open Go.RowKit

/-- The slice value v holds the texts l, in the world w. -/
def Strs (w : World) (v : Value) (l : List ByteArray) : Prop :=
  (l = [] ∧ ∃ a c, v = .slice a 0 c) ∨
  ∃ b off cap, v = .slice (some ⟨b, off, none⟩) l.length cap ∧ l ≠ [] ∧ (b < w.heap.size ∧ l.length ≤ cap) ∧ ∀ (k : Nat) (h : k < l.length), w.cell? ⟨b, off + k, none⟩ = some (.string l[k])

theorem Strs.later {w w' : World} {v : Value} {l : List ByteArray} (h : Strs w v l) (hb : Below w.heap.size w w') : Strs w' v l := by
  rcases h with h | ⟨b, off, cap, hv, hl, hlt, hc⟩
  · exact .inl h
  · exact .inr ⟨b, off, cap, hv, hl, ⟨Nat.lt_of_lt_of_le hlt.1 hb.size, hlt.2⟩, fun k hk => (hb.cell (p := ⟨b, off + k, none⟩) hlt.1).trans (hc k hk)⟩

/-- The shape of such a value, and its cells. -/
theorem Strs.shape {w : World} {v : Value} {l : List ByteArray} (h : Strs w v l) : ∃ a cap, v = .slice a l.length cap ∧
    ∀ (k : Nat) (h : k < l.length), ∃ b off, a = some ⟨b, off, none⟩ ∧ b < w.heap.size ∧ w.cell? ⟨b, off + k, none⟩ = some (.string l[k]) := by
  rcases h with ⟨rfl, a, c, rfl⟩ | ⟨b, off, cap, rfl, _, hb, hc⟩
  · exact ⟨a, c, rfl, fun k hk => absurd hk (by simp)⟩
  · exact ⟨some ⟨b, off, none⟩, cap, rfl, fun k hk => ⟨b, off, rfl, hb.1, hc k hk⟩⟩

theorem Strs.cap {w : World} {a : Option Addr} {n c : Nat} {l : List ByteArray} (h : Strs w (.slice a n c) l) : n ≤ c := by
  rcases h with ⟨rfl, a', c', hv⟩ | ⟨b, off, cap, hv, hl, hb, hc⟩
  · injection hv with _ h2 _; omega
  · injection hv with _ h2 h3; have := hb.2; omega

/-- The first texts of a slice. -/
theorem Strs.take {w : World} {a : Option Addr} {l : List ByteArray} {cap : Nat} (h : Strs w (.slice a l.length cap) l) (k : Nat) (hk : k ≤ l.length) : Strs w (.slice a k cap) (l.take k) := by
  have hlen : (l.take k).length = k := by rw [List.length_take]; omega
  by_cases h0 : k = 0
  · subst h0; exact .inl ⟨rfl, _, _, rfl⟩
  · rcases h with ⟨rfl, _⟩ | ⟨b, off, cap', hv, hl, hb, hc⟩
    · simp at hk; omega
    · injection hv with h1 _ h3
      subst h1 h3
      refine .inr ⟨b, off, cap, by rw [hlen], fun q => h0 (by rw [← hlen, q]; rfl), ⟨hb.1, by have := hb.2; omega⟩, fun j hj => ?_⟩
      rw [hc j (by omega), List.getElem_take]

/-- The slice value v holds the numbers l, in the world w. -/
def Ints (w : World) (v : Value) (l : List Int) : Prop :=
  ∃ a cap, v = .slice a l.length cap ∧ ∀ (k : Nat) (h : k < l.length), ∃ b off, a = some ⟨b, off, none⟩ ∧ b < w.heap.size ∧ w.cell? ⟨b, off + k, none⟩ = some (.int .i64 l[k])

theorem Ints.later {w w' : World} {v : Value} {l : List Int} (h : Ints w v l) (hb : Below w.heap.size w w') : Ints w' v l := by
  obtain ⟨a, cap, hv, hc⟩ := h
  refine ⟨a, cap, hv, fun k hk => ?_⟩
  obtain ⟨b, off, ha, hlt, h1⟩ := hc k hk
  exact ⟨b, off, ha, Nat.lt_of_lt_of_le hlt hb.size, (hb.cell (p := ⟨b, off + k, none⟩) hlt).trans h1⟩

theorem ints_one (w : World) (s : Int) (e : TypeId) : Ints (w.alloc (.cells #[.int .i64 s] e)) (.slice (some ⟨w.heap.size, 0, none⟩) 1 1) [s] := by
  refine ⟨_, _, rfl, fun k hk => ?_⟩
  obtain rfl : k = 0 := by simp at hk; omega
  exact ⟨_, _, rfl, by simp, by simp⟩

end Go.Proofs.Ythaeojbfjfhngaa
