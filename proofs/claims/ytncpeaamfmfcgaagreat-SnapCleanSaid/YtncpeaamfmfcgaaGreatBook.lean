/- complinebook.Short. -/
import Derived.Test.YtncpeaamfmfcgaaGreatRoom
import Derived.Test.YtncpeaamfmfcgaaGreatSame
namespace Go.Proofs.YtncpeaamfmfcgaaGreat
open Go.RowKit

def total : List ByteArray → Nat
  | [] => 0
  | s :: r => s.size + total r
theorem total_append (a b : List ByteArray) : total (a ++ b) = total a + total b := by
  induction a with
  | nil => simp [total]
  | cons s a ih => simp only [List.cons_append, total, ih]; omega
theorem total_take (l : List ByteArray) (k : Nat) (h : k < l.length) : total (l.take (k + 1)) = total (l.take k) + l[k].size := by
  rw [List.take_succ_eq_append_getElem h, total_append]; rfl
theorem total_take_le (l : List ByteArray) (k : Nat) : total (l.take k) ≤ total l := by
  conv => rhs; rw [← List.take_append_drop k l]
  rw [total_append]; omega

/-- Are texts few, and together no longer than that? -/
def shortB (few room : Int) (l : List ByteArray) : Bool := decide ((l.length : Int) ≤ few ∧ (total l : Int) ≤ room)

/-- How much room is left behind n bytes. -/
def leftOver (room : Int) (n : Nat) : Int := if (n : Int) ≤ room then room - n else -1
theorem leftOver_step (room : Int) (n m : Nat) (h : 0 ≤ leftOver room n) (_h0 : 0 ≤ room) : roomF (leftOver room n) [(m : Int)] = leftOver room (n + m) := by
  unfold leftOver roomF at *
  by_cases h1 : (n : Int) ≤ room
  · rw [if_pos h1] at h ⊢
    by_cases h2 : ((n + m : Nat) : Int) ≤ room
    · rw [if_pos h2, if_neg (by omega)]; simp only [roomF]; omega
    · rw [if_neg h2, if_pos (by omega)]
  · rw [if_neg h1] at h; omega

set_option maxHeartbeats 400000 in
theorem short_any (few room : Int) (l : List ByteArray) (v : Value) (w : World) (hv : Strs w v l) (hl : l.length ≤ 9223372036854775807) (hr0 : 0 ≤ room) (hr : room ≤ 4611686018427387904) (hs : ∀ s ∈ l, s.size ≤ 9223372036854775807) :
    Calls Tryz.prog 18 #[.int .i64 few, .int .i64 room, v] w fun e w' => e = .returned (.bool (shortB few room l)) ∧ Below w.heap.size w w' := by
  obtain ⟨a, cap, rfl, hc⟩ := hv.shape
  have HC := Lib.hid hc
  have HS := Lib.hid hs
  clear hc hs hv
  by_cases hfew : (l.length : Int) ≤ few
  · go_enter Tryz.func18, Tryz.ntmps18
    go_wp2
    go_loopw [1, 7] (fun x i wr => ∃ k : Nat, k ≤ l.length ∧ i = .int .i64 k ∧ x = .int .i64 (leftOver room (total (l.take k))) ∧ Below w.heap.size w wr) (fun _ i _ => l.length - (intOf i).toNat)
    case atStart => exact ⟨0, Nat.zero_le _, rfl, by unfold leftOver; simp [total, hr0], Below.refl _ _⟩
    case round =>
      obtain ⟨k, hk, rfl, rfl, hbl⟩ := hrel
      have HB := Lib.hid hbl
      by_cases hneg : leftOver room (total (l.take k)) < 0
      · have HF : Hid (shortB few room l = false) := by
          have h1 := total_take_le l k
          unfold leftOver at hneg
          refine decide_eq_false fun q => ?_
          rw [if_pos (by omega)] at hneg; omega
        have hlo : leftOver room (total (l.take k)) = -1 := by
          unfold leftOver at hneg ⊢; split at hneg <;> omega
        rw [hlo]
        clear hneg hbl hlo
        by_cases hlt : k < l.length
        · go_wp2
          go_ret
          rw [HF.out]
          exact ⟨rfl, HB.out⟩
        · go_wp2
          go_ret
          rw [HF.out]
          exact ⟨rfl, HB.out⟩
      · have hlo : leftOver room (total (l.take k)) = room - (total (l.take k) : Nat) ∧ (total (l.take k) : Int) ≤ room := by
          unfold leftOver at hneg ⊢; split at hneg <;> split <;> omega
        by_cases hlt : k < l.length
        · obtain ⟨b, off, rfl, hbw, hcell⟩ := HC.out k hlt
          have hcell' := (hbl.cell (p := ⟨b, off + k, none⟩) hbw).trans hcell
          have hss := HS.out l[k] (List.getElem_mem hlt)
          have HT := Lib.hid (total_take l k hlt)
          have HL := Lib.hid (leftOver_step room (total (l.take k)) l[k].size (by omega) hr0)
          have hx0 : 0 ≤ leftOver room (total (l.take k)) ∧ leftOver room (total (l.take k)) ≤ room := by omega
          obtain ⟨hx0, hx1⟩ := hx0
          clear hcell hlo hbl hneg
          generalize hx : leftOver room (total (l.take k)) = x at *
          clear hx
          generalize l[k] = s at *
          go_wp2_with fail
          refine (room_any x [(s.size : Int)] _ _ (ints_one _ _ _) (by simp) (by omega) (by omega) (by simp)).mono ?_
          rintro e w2 ⟨rfl, rfl⟩
          rw [HL.out]
          go_wp2
          go_roundw
          case rel => exact ⟨k + 1, by omega, by go_num, by rw [HT.out], HB.out.alloc HB.out.size _⟩
          case measure => simp [intOf]; omega
        · have HF : Hid (shortB few room l = true) := by
            rw [List.take_of_length_le (by omega)] at hlo
            exact decide_eq_true ⟨hfew, hlo.2⟩
          have hnn : ¬ leftOver room (total (l.take k)) < 0 := hneg
          have hnn2 : 0 ≤ leftOver room (total (l.take k)) := by omega
          clear hlo hneg
          generalize leftOver room (total (l.take k)) = x at *
          go_wp2
          go_ret
          rw [HF.out]
          exact ⟨rfl, HB.out⟩
  · have HF := Lib.hid (show shortB few room l = false from decide_eq_false fun q => hfew q.1)
    go_enter Tryz.func18, Tryz.ntmps18
    go_wp2
    go_ret
    rw [HF.out]
    exact ⟨rfl, Below.refl _ _⟩

end Go.Proofs.YtncpeaamfmfcgaaGreat
