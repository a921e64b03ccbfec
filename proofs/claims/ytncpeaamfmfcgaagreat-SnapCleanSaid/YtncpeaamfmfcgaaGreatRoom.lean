/- complinebook.Room. -/
import Derived.Test.YtncpeaamfmfcgaaGreatBase
import Derived.BigQuiet
import Derived.Deep.QuietTactic
namespace Go.Proofs.YtncpeaamfmfcgaaGreat
open Go.RowKit

def roomF (left : Int) : List Int → Int
  | [] => left
  | s :: r => if left < 0 ∨ left < s then -1 else roomF (left - s) r

set_option maxHeartbeats 1000000 in
theorem room_any (left : Int) (l : List Int) (v : Value) (w : World) (hv : Ints w v l) (hs : ∀ s ∈ l, 0 ≤ s) (hl : left ≤ 4611686018427387904) (hl0 : -1 ≤ left) (hn : l.length ≤ 9223372036854775807) :
    Calls Tryz.prog 49 #[.int .i64 left, v] w fun e w' => e = .returned (.int .i64 (roomF left l)) ∧ w' = w := by
  obtain ⟨a, cap, rfl, hc⟩ := hv
  have HC := Lib.hid hc
  have HS := Lib.hid hs
  clear hc hs
  go_enter Tryz.func49, Tryz.ntmps49
  go_wp2
  go_loop [0, 5] (fun x i => ∃ (k : Nat) (r : Int), k ≤ l.length ∧ i = .int .i64 k ∧ x = .int .i64 r ∧ -1 ≤ r ∧ r ≤ 4611686018427387904 ∧ roomF r (l.drop k) = roomF left l) (fun _ i => l.length - (intOf i).toNat)
  case atStart => exact ⟨0, left, Nat.zero_le _, rfl, rfl, hl0, hl, rfl⟩
  case round =>
    obtain ⟨k, r, hk, rfl, rfl, hr0, hr1, hR⟩ := hrel
    have HR := Lib.hid hR
    clear hR
    by_cases hlt : k < l.length
    · obtain ⟨b, off, rfl, _, hcell⟩ := HC.out k hlt
      have hs0 := HS.out l[k] (List.getElem_mem hlt)
      have HD := Lib.hid (List.drop_eq_getElem_cons hlt)
      generalize l[k] = s at *
      by_cases hneg : r < 0 ∨ r < s
      · have HF := Lib.hid (show roomF left l = -1 by rw [← HR.out, HD.out]; simp only [roomF]; rw [if_pos hneg])
        by_cases hn1 : r < 0
        · go_wp2
          go_ret
          rw [HF.out]
          exact ⟨rfl, rfl⟩
        · have hn2 : r < s := by omega
          go_wp2
          go_ret
          rw [HF.out]
          exact ⟨rfl, rfl⟩
      · have HF := Lib.hid (show roomF (r - s) (l.drop (k + 1)) = roomF left l by rw [← HR.out, HD.out]; simp only [roomF]; rw [if_neg hneg])
        have hn1 : ¬ r < 0 := by omega
        have hn2 : ¬ r < s := by omega
        clear hneg
        go_wp2
        go_round
        case rel => exact ⟨k + 1, r - s, by omega, by go_num, rfl, by omega, by omega, HF.out⟩
        case measure => simp [intOf]; omega
    · have HF := Lib.hid (show roomF left l = r by rw [← HR.out, List.drop_of_length_le (by omega)]; rfl)
      go_wp2
      go_ret
      rw [HF.out]
      exact ⟨rfl, rfl⟩

end Go.Proofs.YtncpeaamfmfcgaaGreat
