/- Is one of the records too long? (slices.ContainsFunc over Commit's first closure.) -/
import Derived.Test.YtncpeaamfmfcgaaGreatBase
import Derived.Test.YtncpeaamfmfcgaaGreatSumNum
namespace Go.Proofs.YtncpeaamfmfcgaaGreat
open Go.RowKit

def tooLong (s : ByteArray) : Bool := decide (60000 ≤ s.size)
def longB (l : List ByteArray) : Bool := l.any tooLong

set_option maxHeartbeats 1000000 in
theorem commit1_any (s : ByteArray) (w : World) (hs : s.size ≤ 9223372036854775807) : Calls Tryz.prog 42 #[.string s] w fun e w' => e = .returned (.bool (tooLong s)) ∧ w = w' := by
  cases ht : tooLong s
  · have h1 : decide ((60000 : Int) ≤ s.size) = false := by unfold tooLong at ht; rw [decide_eq_false_iff_not] at ht ⊢; omega
    clear ht
    go_enter Tryz.func42, Tryz.ntmps42
    go_wp2
    go_ret
    exact ⟨rfl, rfl⟩
  · have h1 : decide ((60000 : Int) ≤ s.size) = true := by unfold tooLong at ht; rw [decide_eq_true_iff] at ht ⊢; omega
    clear ht
    go_enter Tryz.func42, Tryz.ntmps42
    go_wp2
    go_ret
    exact ⟨rfl, rfl⟩

def IndexOut (l : List ByteArray) (w : World) (e : Ending) (w' : World) : Prop := ∃ x : Int, e = .returned (.int .i64 x) ∧ (longB l = true → 0 ≤ x) ∧ (longB l = false → x = -1) ∧ w' = w

set_option maxRecDepth 100000 in
set_option maxHeartbeats 2000000 in
theorem indexFunc_any (l : List ByteArray) (v : Value) (w : World) (hv : Strs w v l) (hl : l.length ≤ 1000000) (hs : ∀ s ∈ l, s.size ≤ 9223372036854775807) :
    Calls Tryz.prog 78 #[v, .func (.func 42) #[] #[]] w (IndexOut l w) := by
  obtain ⟨a, cap, rfl, hk⟩ := hv.shape
  have HV := Lib.hid hk
  have HS := Lib.hid hs
  clear hv hs hk
  go_enter Tryz.func78, Tryz.ntmps78
  go_wp2
  go_loopw [8] (fun iv wr => ∃ k : Nat, k ≤ l.length ∧ iv = .int .i64 (k : Int) ∧ wr = w ∧ longB (l.take k) = false) (fun iv _ => l.length - (intOf iv).toNat)
  case atStart => exact ⟨0, Nat.zero_le _, rfl, rfl, rfl⟩
  case round =>
    obtain ⟨k, hk, rfl, rfl, hlong⟩ := hrel
    have HL := Lib.hid hlong
    clear hlong
    by_cases hlt : k < l.length
    · obtain ⟨b, off, rfl, hbw, hcell⟩ := HV.out k hlt
      have hss := HS.out l[k] (List.getElem_mem hlt)
      have HTK := Lib.hid (show longB (l.take (k + 1)) = tooLong l[k] by unfold longB; rw [List.take_succ_eq_append_getElem hlt, List.any_append]; show (longB (l.take k) || _) = _; rw [HL.out]; simp)
      have HANY := Lib.hid (show tooLong l[k] = true → longB l = true by intro h; unfold longB; rw [List.any_eq_true]; exact ⟨l[k], List.getElem_mem hlt, h⟩)
      generalize l[k] = s at *
      clear hbw
      go_wp2_with fail
      refine (commit1_any s _ hss).mono ?_
      rintro e w1 ⟨rfl, rfl⟩
      cases ht : tooLong s
      · have HT := Lib.hid ht
        clear ht
        go_wp2
        go_roundw
        case rel => exact ⟨k + 1, by omega, by go_num, by first | rfl | trivial, HTK.out.trans HT.out⟩
        case measure => simp [intOf]; omega
      · have HT := Lib.hid (HANY.out ht)
        clear ht
        go_wp2
        go_ret
        exact ⟨k, rfl, fun _ => by omega, (fun h => by rw [HT.out] at h; cases h), rfl⟩
    · have hkl : k = l.length := by omega
      have HE := Lib.hid (show longB l = false by have := HL.out; rw [hkl, List.take_length] at this; exact this)
      clear hkl
      go_wp2
      go_ret
      exact ⟨-1, rfl, (fun h => by rw [HE.out] at h; cases h), fun _ => rfl, rfl⟩

set_option maxHeartbeats 1000000 in
theorem containsFunc_any (l : List ByteArray) (v : Value) (w : World) (hv : Strs w v l) (hl : l.length ≤ 1000000) (hs : ∀ s ∈ l, s.size ≤ 9223372036854775807) :
    Calls Tryz.prog 41 #[v, .func (.func 42) #[] #[]] w fun e w' => e = .returned (.bool (longB l)) ∧ w = w' := by
  have HX := Lib.hid (indexFunc_any l v w hv hl hs)
  clear hv hs
  go_enter Tryz.func41, Tryz.ntmps41
  go_wp2_with fail
  refine HX.out.mono ?_
  rintro e w1 ⟨x, rfl, h1, h2, rfl⟩
  cases hb : longB l
  · have h3 : decide ((0 : Int) ≤ x) = false := by rw [h2 hb]; rfl
    have HB := Lib.hid hb
    clear h1 h2 hb
    go_wp2
    go_ret
    rw [HB.out]
    exact ⟨rfl, rfl⟩
  · have h3 : decide ((0 : Int) ≤ x) = true := decide_eq_true (h1 hb)
    have HB := Lib.hid hb
    clear h1 h2 hb
    go_wp2
    go_ret
    rw [HB.out]
    exact ⟨rfl, rfl⟩

end Go.Proofs.YtncpeaamfmfcgaaGreat
