/- Words that all walks of this seat share: slices of strings in memory. -/
import Derived.Test.YtncpeaamfmfcgaaGreatProg
import Derived.WalkKit
import Derived.WalkSpells
import Derived.WalkLawsBesides
import Derived.Lib.Hide
import Derived.Lib.Strings
import Derived.KernelRfl
namespace Go.Proofs.YtncpeaamfmfcgaaGreat
open Go.RowKit

/-- The slice value v holds the texts l, in the world w. -/
def Strs (w : World) (v : Value) (l : List ByteArray) : Prop :=
  ∃ a cap, v = .slice a l.length cap ∧ l.length ≤ cap ∧ (a = none → cap = 0) ∧
    ∀ (k : Nat) (h : k < l.length), ∃ b off, a = some ⟨b, off, none⟩ ∧ b < w.heap.size ∧ w.cell? ⟨b, off + k, none⟩ = some (.string l[k])

theorem Strs.of {w : World} {b off cap : Nat} {l : List ByteArray} (hb : b < w.heap.size) (hl : l.length ≤ cap)
    (hc : ∀ (k : Nat) (h : k < l.length), w.cell? ⟨b, off + k, none⟩ = some (.string l[k])) : Strs w (.slice (some ⟨b, off, none⟩) l.length cap) l :=
  ⟨_, _, rfl, hl, (fun h => by cases h), fun k hk => ⟨b, off, rfl, hb, hc k hk⟩⟩

theorem Strs.nil (w : World) : Strs w (.slice none 0 0) [] := ⟨none, 0, rfl, Nat.le_refl _, (fun _ => rfl), fun k hk => absurd hk (by simp)⟩

theorem Strs.later {w w' : World} {v : Value} {l : List ByteArray} (h : Strs w v l) (hb : Below w.heap.size w w') : Strs w' v l := by
  obtain ⟨a, cap, hv, hl, hn, hc⟩ := h
  refine ⟨a, cap, hv, hl, hn, fun k hk => ?_⟩
  obtain ⟨b, off, ha, hlt, h1⟩ := hc k hk
  exact ⟨b, off, ha, Nat.lt_of_lt_of_le hlt hb.size, (hb.cell (p := ⟨b, off + k, none⟩) hlt).trans h1⟩

/-- The shape of such a value, and its cells. -/
theorem Strs.shape {w : World} {v : Value} {l : List ByteArray} (h : Strs w v l) : ∃ a cap, v = .slice a l.length cap ∧
    ∀ (k : Nat) (h : k < l.length), ∃ b off, a = some ⟨b, off, none⟩ ∧ b < w.heap.size ∧ w.cell? ⟨b, off + k, none⟩ = some (.string l[k]) := by
  obtain ⟨a, cap, hv, _, _, hc⟩ := h
  exact ⟨a, cap, hv, hc⟩

theorem Strs.cases {w : World} {v : Value} {l : List ByteArray} (h : Strs w v l) : (l = [] ∧ ∃ a c, v = .slice a 0 c ∧ (a = none → c = 0)) ∨
    ∃ b off cap, v = .slice (some ⟨b, off, none⟩) l.length cap ∧ l ≠ [] ∧ (b < w.heap.size ∧ l.length ≤ cap) ∧ ∀ (k : Nat) (h : k < l.length), w.cell? ⟨b, off + k, none⟩ = some (.string l[k]) := by
  obtain ⟨a, cap, hv, hl, hn, hc⟩ := h
  by_cases h0 : l = []
  · subst h0; exact .inl ⟨rfl, a, cap, hv, hn⟩
  · have hpos : 0 < l.length := List.length_pos_iff.2 h0
    obtain ⟨b, off, rfl, hb, _⟩ := hc 0 hpos
    refine .inr ⟨b, off, cap, hv, h0, ⟨hb, hl⟩, fun k hk => ?_⟩
    obtain ⟨b', off', he, _, h1⟩ := hc k hk
    injection he with he
    injection he with e1 e2 _
    rw [e1, e2]; exact h1

theorem Strs.cap {w : World} {a : Option Addr} {n c : Nat} {l : List ByteArray} (h : Strs w (.slice a n c) l) : n ≤ c := by
  obtain ⟨a', cap, hv, hl, _⟩ := h
  injection hv with _ h2 h3; omega

/-- The first texts of a slice. -/
theorem Strs.take {w : World} {a : Option Addr} {l : List ByteArray} {cap : Nat} (h : Strs w (.slice a l.length cap) l) (k : Nat) (hk : k ≤ l.length) : Strs w (.slice a k cap) (l.take k) := by
  have hlen : (l.take k).length = k := by rw [List.length_take]; omega
  obtain ⟨a', cap', hv, hl, hn, hc⟩ := h
  injection hv with h1 _ h3
  subst h1 h3
  refine ⟨a, cap, by rw [hlen], by omega, hn, fun j hj => ?_⟩
  obtain ⟨b, off, ha, hb, h1⟩ := hc j (by omega)
  exact ⟨b, off, ha, hb, by rw [h1, List.getElem_take]⟩

/-- The slice value v holds the numbers l, in the world w. -/
def Ints (w : World) (v : Value) (l : List Int) : Prop :=
  ∃ a cap, v = .slice a l.length cap ∧ ∀ (k : Nat) (h : k < l.length), ∃ b off, a = some ⟨b, off, none⟩ ∧ b < w.heap.size ∧ w.cell? ⟨b, off + k, none⟩ = some (.int .i64 l[k])

theorem Ints.later {w w' : World} {v : Value} {l : List Int} (h : Ints w v l) (hb : Below w.heap.size w w') : Ints w' v l := by
  obtain ⟨a, cap, hv, hc⟩ := h
  refine ⟨a, cap, hv, fun k hk => ?_⟩
  obtain ⟨b, off, ha, hlt, h1⟩ := hc k hk
  exact ⟨b, off, ha, Nat.lt_of_lt_of_le hlt hb.size, (hb.cell (p := ⟨b, off + k, none⟩) hlt).trans h1⟩

theorem ints_one (w : World) (s : Int) (e : TypeId) : Ints (w.alloc (.cells #[.int .i64 s] e)) (.slice (some ⟨w.heap.size, 0, none⟩) 1 1) [s] := by
  refine ⟨_, _, rfl, fun k hk => ?_⟩
  obtain rfl : k = 0 := by simp at hk; omega
  exact ⟨_, _, rfl, by simp, by simp⟩

end Go.Proofs.YtncpeaamfmfcgaaGreat
