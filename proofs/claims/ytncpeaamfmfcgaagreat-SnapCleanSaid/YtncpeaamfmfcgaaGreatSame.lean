/- complinebook.SameTexts. -/
import Derived.Test.YtncpeaamfmfcgaaGreatBase
import Derived.BigQuiet
import Derived.Deep.QuietTactic
namespace Go.Proofs.YtncpeaamfmfcgaaGreat
open Go.RowKit

theorem bytes_eq (a b : ByteArray) : (a.toList == b.toList) = decide (a = b) := by
  rw [Bool.eq_iff_iff, beq_iff_eq, decide_eq_true_iff, ByteArray.toList_eq, ByteArray.toList_eq]
  constructor
  · intro h; exact ByteArray.ext (Array.toList_inj.1 h)
  · intro h; rw [h]

def sameB (a b : List ByteArray) : Bool := decide (a = b)
theorem sameB_ne {a b : List ByteArray} (k : Nat) (ha : k < a.length) (hb : k < b.length) (h : a[k] ≠ b[k]) : sameB a b = false :=
  decide_eq_false fun q => by subst q; exact h rfl
theorem sameB_all {a b : List ByteArray} (hl : a.length = b.length) (h : a.take a.length = b.take a.length) : sameB a b = true :=
  decide_eq_true (by rw [List.take_length, hl, List.take_length] at h; exact h)

set_option maxHeartbeats 1000000 in
theorem same_any (l m : List ByteArray) (u v : Value) (w : World) (hu : Strs w u l) (hv : Strs w v m) (hl : l.length ≤ 9223372036854775807) :
    Calls Tryz.prog 20 #[u, v] w fun e w' => e = .returned (.bool (sameB l m)) ∧ ∃ n, w' = w.drewN n := by
  obtain ⟨a, cap, rfl, hc⟩ := hu.shape
  obtain ⟨a', cap', rfl, hc'⟩ := hv.shape
  have HC := Lib.hid hc
  have HC' := Lib.hid hc'
  clear hc hc' hu hv
  by_cases hlen : l.length = m.length
  · have hb0 : ((l.length : Int) != (m.length : Int)) = false := by rw [hlen]; simp
    have HLEN := Lib.hid hlen
    clear hlen
    go_enter Tryz.func20, Tryz.ntmps20
    go_wp2
    go_loopw [5] (fun i wr => ∃ k : Nat, k ≤ l.length ∧ i = .int .i64 k ∧ l.take k = m.take k ∧ ∃ n, wr = w.drewN n) (fun i _ => l.length - (intOf i).toNat)
    case atStart => exact ⟨0, Nat.zero_le _, rfl, rfl, 0, rfl⟩
    case round =>
      obtain ⟨k, hk, rfl, htk, n, rfl⟩ := hrel
      have HT := Lib.hid htk
      clear htk
      by_cases hlt : k < l.length
      · obtain ⟨b, off, rfl, hbw, hcell⟩ := HC.out k hlt
        have hlt' : k < m.length := by have := HLEN.out; omega
        obtain ⟨b', off', rfl, hbw', hcell'⟩ := HC'.out k hlt'
        have HN := Lib.hid (sameB_ne k hlt hlt')
        have HE : Hid (l[k] = m[k] → l.take (k + 1) = m.take (k + 1)) := fun h => by
          rw [List.take_succ_eq_append_getElem hlt, List.take_succ_eq_append_getElem hlt', HT.out, h]
        generalize l[k] = s at *
        generalize m[k] = t at *
        have hk1 : (0 : Int) ≤ k := by omega
        have hk2 : (k : Int) < l.length := by omega
        have hk3 : (k : Int) < m.length := by omega
        by_cases hst : s = t
        · have hq : (s.toList == t.toList) = true := by rw [bytes_eq]; exact decide_eq_true hst
          have HE' := Lib.hid (HE.out hst)
          clear hst HN HE
          go_wp2_with fail
          go_quiet (fail)
          go_wp2
          go_roundw
          case rel => exact ⟨k + 1, by omega, by go_num, HE'.out, _, rfl⟩
          case measure => simp [intOf]; omega
        · have hq : (s.toList == t.toList) = false := by rw [bytes_eq]; exact decide_eq_false hst
          have HN' := Lib.hid (HN.out hst)
          clear hst HN HE
          go_wp2_with fail
          go_quiet (fail)
          go_wp2
          go_ret
          rw [HN'.out]
          exact ⟨rfl, n + nq, by rw [World.drewN_drewN]⟩
      · have HF : Hid (sameB l m = true) := by
          obtain rfl : k = l.length := by omega
          exact sameB_all HLEN.out HT.out
        go_wp2
        go_ret
        rw [HF.out]
        exact ⟨rfl, _, rfl⟩
  · have hb0 : ((l.length : Int) != (m.length : Int)) = true := by rw [bne_iff_ne]; omega
    have HF := Lib.hid (show sameB l m = false from decide_eq_false fun q => hlen (by rw [q]))
    clear hlen
    go_enter Tryz.func20, Tryz.ntmps20
    go_wp2
    go_ret
    rw [HF.out]
    exact ⟨rfl, 0, rfl⟩

end Go.Proofs.YtncpeaamfmfcgaaGreat
