/- The plain side of package sum: a frame of which one byte is changed is not found as it was. -/
import Derived.Test.YthaeojbfjfhngaaSumPlain
namespace Go.Proofs.Ythaeojbfjfhngaa.Sum

/-! A frame of which one byte is changed. -/
theorem num_take (b : List UInt8) (h : 4 ≤ b.length) (c : List UInt8) (hc : 4 ≤ c.length) (he : num b = num c) : b.take 4 = c.take 4 := by
  rw [← four_num b h, ← four_num c hc, he]

theorem num_same (b c : List UInt8) (hc : 4 ≤ c.length) (he : b.take 4 = c.take 4) : num b = num c := by
  rw [← List.take_append_drop 4 b, ← List.take_append_drop 4 c, he]
  rw [← four_num c hc, num_four _ (num_lt c), num_four _ (num_lt c)]

theorem take_set_ne (l : List UInt8) (k : Nat) (c : UInt8) (h : k < l.length) (n : Nat) (hn : k < n) (hc : c ≠ l[k]) : (l.set k c).take n ≠ l.take n := by
  intro he
  have h1 := congrArg (fun x => x[k]?) he
  simp only [List.getElem?_take, if_pos hn] at h1
  rw [List.getElem?_set_self h, List.getElem?_eq_getElem h] at h1
  exact hc (Option.some.inj h1)

theorem changed (s : List UInt8) (hs : s.length ≤ 60000) (k : Nat) (hk : k < (frame s).length) (c : UInt8) (hc : c ≠ (frame s)[k]) :
    (4 ≤ k → scan ((frame s).set k c) = ([], 0)) ∧ (k < 4 → ∀ x r, (scan ((frame s).set k c)).1 = x :: r → x ≠ s) := by
  obtain ⟨p1, p2, p3, p4⟩ := frame_parts s [] hs
  rw [List.append_nil] at p1 p2 p3 p4
  have hfl := frame_length s
  have hsl : ((frame s).set k c).length = (frame s).length := List.length_set
  refine ⟨fun h4 => ?_, fun h4 x r hx => ?_⟩
  · have ht : ((frame s).set k c).take 4 = (frame s).take 4 := by
      rw [List.take_set, List.set_eq_of_length_le (by rw [List.length_take]; omega)]
    have hn : num ((frame s).set k c) = s.length := by rw [num_same _ _ (by omega) ht, p1]
    refine scan_stop _ fun q => ?_
    have hq := q.2.2.2
    rw [hn] at hq
    by_cases h8 : k < 8
    · have e1 : (((frame s).set k c).drop 8) = (frame s).drop 8 := List.drop_set_of_lt h8
      rw [e1, p2] at hq
      have e2 : ((frame s).set k c).drop 4 = ((frame s).drop 4).set (k - 4) c := by rw [List.drop_set, if_neg (by omega)]
      rw [e2, ← p3] at hq
      have := num_take _ (by simp; omega) _ (by simp; omega) hq
      exact take_set_ne ((frame s).drop 4) (k - 4) c (by rw [List.length_drop]; omega) 4 (by omega) (by rw [List.getElem_drop]; simpa [show 4 + (k - 4) = k from by omega] using hc) this.symm
    · have e1 : (((frame s).set k c).drop 8).take s.length = s.set (k - 8) c := by
        rw [List.drop_set, if_neg (by omega), List.take_set, p2]
      have e2 : num (((frame s).set k c).drop 4) = crc s := by
        rw [← p3]
        refine num_same _ _ (by simp; omega) ?_
        rw [List.drop_set, if_neg (by omega), List.take_set, List.set_eq_of_length_le (by rw [List.length_take]; omega)]
      rw [e1, e2] at hq
      refine crc_set_ne s (k - 8) (by omega) c (fun h => hc ?_) hq
      rw [h]
      have hp : s[k - 8]? = (((frame s).drop 8).take s.length)[k - 8]? := by rw [p2]
      rw [List.getElem?_take, if_pos (by omega), List.getElem?_drop, show 8 + (k - 8) = k from by omega, List.getElem?_eq_getElem hk, List.getElem?_eq_getElem (by omega)] at hp
      exact Option.some.inj hp
  · by_cases hok : ok ((frame s).set k c)
    · rw [scan_go _ hok] at hx
      injection hx with hx _
      intro he
      have hl : x.length = num ((frame s).set k c) := by
        rw [← hx]; have := hok.2.2.1; rw [List.length_take, List.length_drop]; omega
      rw [he] at hl
      exact take_set_ne (frame s) k c hk 4 h4 hc (num_take _ (by omega) _ (by omega) (by rw [p1, ← hl]))
    · rw [scan_stop _ hok] at hx; cases hx

end Go.Proofs.Ythaeojbfjfhngaa.Sum
