/- complinebook: Room, Short and SameTexts. -/
import Derived.Test.YthaeojbfjfhngaaBase
import Derived.BigQuiet
import Derived.Deep.QuietTactic
namespace Go.Proofs.Ythaeojbfjfhngaa
open Go.RowKit

def roomF (left : Int) : List Int → Int
  | [] => left
  | s :: r => if left < 0 ∨ left < s then -1 else roomF (left - s) r

set_option maxHeartbeats 1000000 in
theorem room_any (left : Int) (l : List Int) (v : Value) (w : World) (hv : Ints w v l) (hs : ∀ s ∈ l, 0 ≤ s) (hl : left ≤ 4611686018427387904) (hl0 : -1 ≤ left) (hn : l.length ≤ 9223372036854775807) :
    Calls Try.prog 20 #[.int .i64 left, v] w fun e w' => e = .returned (.int .i64 (roomF left l)) ∧ w' = w := by
  obtain ⟨a, cap, rfl, hc⟩ := hv
  have HC := Lib.hid hc
  have HS := Lib.hid hs
  clear hc hs
  go_enter Try.func20, Try.ntmps20
  go_wp2
  go_loop [0, 5] (fun x i => ∃ (k : Nat) (r : Int), k ≤ l.length ∧ i = .int .i64 k ∧ x = .int .i64 r ∧ -1 ≤ r ∧ r ≤ 4611686018427387904 ∧ roomF r (l.drop k) = roomF left l) (fun _ i => l.length - (intOf i).toNat)
  case atStart => exact ⟨0, left, Nat.zero_le _, rfl, rfl, hl0, hl, rfl⟩
  case round =>
    obtain ⟨k, r, hk, rfl, rfl, hr0, hr1, hR⟩ := hrel
    have HR := Lib.hid hR
    clear hR
    by_cases hlt : k < l.length
    · obtain ⟨b, off, rfl, _, hcell⟩ := HC.out k hlt
      have hs0 := HS.out l[k] (List.getElem_mem hlt)
      have HD := Lib.hid (List.drop_eq_getElem_cons hlt)
      generalize l[k] = s at *
      by_cases hneg : r < 0 ∨ r < s
      · have HF := Lib.hid (show roomF left l = -1 by rw [← HR.out, HD.out]; simp only [roomF]; rw [if_pos hneg])
        by_cases hn1 : r < 0
        · go_wp2
          go_ret
          rw [HF.out]
          exact ⟨rfl, rfl⟩
        · have hn2 : r < s := by omega
          go_wp2
          go_ret
          rw [HF.out]
          exact ⟨rfl, rfl⟩
      · have HF := Lib.hid (show roomF (r - s) (l.drop (k + 1)) = roomF left l by rw [← HR.out, HD.out]; simp only [roomF]; rw [if_neg hneg])
        have hn1 : ¬ r < 0 := by omega
        have hn2 : ¬ r < s := by omega
        clear hneg
        go_wp2
        go_round
        case rel => exact ⟨k + 1, r - s, by omega, by go_num, rfl, by omega, by omega, HF.out⟩
        case measure => simp [intOf]; omega
    · have HF := Lib.hid (show roomF left l = r by rw [← HR.out, List.drop_of_length_le (by omega)]; rfl)
      go_wp2
      go_ret
      rw [HF.out]
      exact ⟨rfl, rfl⟩

def total : List ByteArray → Nat
  | [] => 0
  | s :: r => s.size + total r
theorem total_append (a b : List ByteArray) : total (a ++ b) = total a + total b := by
  induction a with
  | nil => simp [total]
  | cons s a ih => simp only [List.cons_append, total, ih]; omega
theorem total_take (l : List ByteArray) (k : Nat) (h : k < l.length) : total (l.take (k + 1)) = total (l.take k) + l[k].size := by
  rw [List.take_succ_eq_append_getElem h, total_append]; rfl
theorem total_take_le (l : List ByteArray) (k : Nat) : total (l.take k) ≤ total l := by
  conv => rhs; rw [← List.take_append_drop k l]
  rw [total_append]; omega

/-- Are texts few, and together no longer than that? -/
def shortB (few room : Int) (l : List ByteArray) : Bool := decide ((l.length : Int) ≤ few ∧ (total l : Int) ≤ room)

/-- How much room is left behind n bytes. -/
def leftOver (room : Int) (n : Nat) : Int := if (n : Int) ≤ room then room - n else -1
theorem leftOver_step (room : Int) (n m : Nat) (h : 0 ≤ leftOver room n) (_h0 : 0 ≤ room) : roomF (leftOver room n) [(m : Int)] = leftOver room (n + m) := by
  unfold leftOver roomF at *
  by_cases h1 : (n : Int) ≤ room
  · rw [if_pos h1] at h ⊢
    by_cases h2 : ((n + m : Nat) : Int) ≤ room
    · rw [if_pos h2, if_neg (by omega)]; simp only [roomF]; omega
    · rw [if_neg h2, if_pos (by omega)]
  · rw [if_neg h1] at h; omega

set_option maxHeartbeats 400000 in
theorem short_any (few room : Int) (l : List ByteArray) (v : Value) (w : World) (hv : Strs w v l) (hl : l.length ≤ 9223372036854775807) (hr0 : 0 ≤ room) (hr : room ≤ 4611686018427387904) (hs : ∀ s ∈ l, s.size ≤ 9223372036854775807) :
    Calls Try.prog 14 #[.int .i64 few, .int .i64 room, v] w fun e w' => e = .returned (.bool (shortB few room l)) ∧ Below w.heap.size w w' := by
  obtain ⟨a, cap, rfl, hc⟩ := hv.shape
  have HC := Lib.hid hc
  have HS := Lib.hid hs
  clear hc hs hv
  by_cases hfew : (l.length : Int) ≤ few
  · go_enter Try.func14, Try.ntmps14
    go_wp2
    go_loopw [1, 7] (fun x i wr => ∃ k : Nat, k ≤ l.length ∧ i = .int .i64 k ∧ x = .int .i64 (leftOver room (total (l.take k))) ∧ Below w.heap.size w wr) (fun _ i _ => l.length - (intOf i).toNat)
    case atStart => exact ⟨0, Nat.zero_le _, rfl, by unfold leftOver; simp [total, hr0], Below.refl _ _⟩
    case round =>
      obtain ⟨k, hk, rfl, rfl, hbl⟩ := hrel
      have HB := Lib.hid hbl
      by_cases hneg : leftOver room (total (l.take k)) < 0
      · have HF : Hid (shortB few room l = false) := by
          have h1 := total_take_le l k
          unfold leftOver at hneg
          refine decide_eq_false fun q => ?_
          rw [if_pos (by omega)] at hneg; omega
        have hlo : leftOver room (total (l.take k)) = -1 := by
          unfold leftOver at hneg ⊢; split at hneg <;> omega
        rw [hlo]
        clear hneg hbl hlo
        by_cases hlt : k < l.length
        · go_wp2
          go_ret
          rw [HF.out]
          exact ⟨rfl, HB.out⟩
        · go_wp2
          go_ret
          rw [HF.out]
          exact ⟨rfl, HB.out⟩
      · have hlo : leftOver room (total (l.take k)) = room - (total (l.take k) : Nat) ∧ (total (l.take k) : Int) ≤ room := by
          unfold leftOver at hneg ⊢; split at hneg <;> split <;> omega
        by_cases hlt : k < l.length
        · obtain ⟨b, off, rfl, hbw, hcell⟩ := HC.out k hlt
          have hcell' := (hbl.cell (p := ⟨b, off + k, none⟩) hbw).trans hcell
          have hss := HS.out l[k] (List.getElem_mem hlt)
          have HT := Lib.hid (total_take l k hlt)
          have HL := Lib.hid (leftOver_step room (total (l.take k)) l[k].size (by omega) hr0)
          have hx0 : 0 ≤ leftOver room (total (l.take k)) ∧ leftOver room (total (l.take k)) ≤ room := by omega
          obtain ⟨hx0, hx1⟩ := hx0
          clear hcell hlo hbl hneg
          generalize hx : leftOver room (total (l.take k)) = x at *
          clear hx
          generalize l[k] = s at *
          go_wp2_with fail
          refine (room_any x [(s.size : Int)] _ _ (ints_one _ _ _) (by simp) (by omega) (by omega) (by simp)).mono ?_
          rintro e w2 ⟨rfl, rfl⟩
          rw [HL.out]
          go_wp2
          go_roundw
          case rel => exact ⟨k + 1, by omega, by go_num, by rw [HT.out], HB.out.alloc HB.out.size _⟩
          case measure => simp [intOf]; omega
        · have HF : Hid (shortB few room l = true) := by
            rw [List.take_of_length_le (by omega)] at hlo
            exact decide_eq_true ⟨hfew, hlo.2⟩
          have hnn : ¬ leftOver room (total (l.take k)) < 0 := hneg
          have hnn2 : 0 ≤ leftOver room (total (l.take k)) := by omega
          clear hlo hneg
          generalize leftOver room (total (l.take k)) = x at *
          go_wp2
          go_ret
          rw [HF.out]
          exact ⟨rfl, HB.out⟩
  · have HF := Lib.hid (show shortB few room l = false from decide_eq_false fun q => hfew q.1)
    go_enter Try.func14, Try.ntmps14
    go_wp2
    go_ret
    rw [HF.out]
    exact ⟨rfl, Below.refl _ _⟩

theorem bytes_eq (a b : ByteArray) : (a.toList == b.toList) = decide (a = b) := by
  rw [Bool.eq_iff_iff, beq_iff_eq, decide_eq_true_iff, ByteArray.toList_eq, ByteArray.toList_eq]
  constructor
  · intro h; exact ByteArray.ext (Array.toList_inj.1 h)
  · intro h; rw [h]

def sameB (a b : List ByteArray) : Bool := decide (a = b)
theorem sameB_ne {a b : List ByteArray} (k : Nat) (ha : k < a.length) (hb : k < b.length) (h : a[k] ≠ b[k]) : sameB a b = false :=
  decide_eq_false fun q => by subst q; exact h rfl
theorem sameB_all {a b : List ByteArray} (hl : a.length = b.length) (h : a.take a.length = b.take a.length) : sameB a b = true :=
  decide_eq_true (by rw [List.take_length, hl, List.take_length] at h; exact h)

set_option maxHeartbeats 1000000 in
theorem same_any (l m : List ByteArray) (u v : Value) (w : World) (hu : Strs w u l) (hv : Strs w v m) (hl : l.length ≤ 9223372036854775807) :
    Calls Try.prog 11 #[u, v] w fun e w' => e = .returned (.bool (sameB l m)) ∧ ∃ n, w' = w.drewN n := by
  obtain ⟨a, cap, rfl, hc⟩ := hu.shape
  obtain ⟨a', cap', rfl, hc'⟩ := hv.shape
  have HC := Lib.hid hc
  have HC' := Lib.hid hc'
  clear hc hc' hu hv
  by_cases hlen : l.length = m.length
  · have hb0 : ((l.length : Int) != (m.length : Int)) = false := by rw [hlen]; simp
    have HLEN := Lib.hid hlen
    clear hlen
    go_enter Try.func11, Try.ntmps11
    go_wp2
    go_loopw [5] (fun i wr => ∃ k : Nat, k ≤ l.length ∧ i = .int .i64 k ∧ l.take k = m.take k ∧ ∃ n, wr = w.drewN n) (fun i _ => l.length - (intOf i).toNat)
    case atStart => exact ⟨0, Nat.zero_le _, rfl, rfl, 0, rfl⟩
    case round =>
      obtain ⟨k, hk, rfl, htk, n, rfl⟩ := hrel
      have HT := Lib.hid htk
      clear htk
      by_cases hlt : k < l.length
      · obtain ⟨b, off, rfl, hbw, hcell⟩ := HC.out k hlt
        have hlt' : k < m.length := by have := HLEN.out; omega
        obtain ⟨b', off', rfl, hbw', hcell'⟩ := HC'.out k hlt'
        have HN := Lib.hid (sameB_ne k hlt hlt')
        have HE : Hid (l[k] = m[k] → l.take (k + 1) = m.take (k + 1)) := fun h => by
          rw [List.take_succ_eq_append_getElem hlt, List.take_succ_eq_append_getElem hlt', HT.out, h]
        generalize l[k] = s at *
        generalize m[k] = t at *
        have hk1 : (0 : Int) ≤ k := by omega
        have hk2 : (k : Int) < l.length := by omega
        have hk3 : (k : Int) < m.length := by omega
        by_cases hst : s = t
        · have hq : (s.toList == t.toList) = true := by rw [bytes_eq]; exact decide_eq_true hst
          have HE' := Lib.hid (HE.out hst)
          clear hst HN HE
          go_wp2_with fail
          go_quiet (fail)
          go_wp2
          go_roundw
          case rel => exact ⟨k + 1, by omega, by go_num, HE'.out, _, rfl⟩
          case measure => simp [intOf]; omega
        · have hq : (s.toList == t.toList) = false := by rw [bytes_eq]; exact decide_eq_false hst
          have HN' := Lib.hid (HN.out hst)
          clear hst HN HE
          go_wp2_with fail
          go_quiet (fail)
          go_wp2
          go_ret
          rw [HN'.out]
          exact ⟨rfl, n + nq, by rw [World.drewN_drewN]⟩
      · have HF : Hid (sameB l m = true) := by
          obtain rfl : k = l.length := by omega
          exact sameB_all HLEN.out HT.out
        go_wp2
        go_ret
        rw [HF.out]
        exact ⟨rfl, _, rfl⟩
  · have hb0 : ((l.length : Int) != (m.length : Int)) = true := by rw [bne_iff_ne]; omega
    have HF := Lib.hid (show sameB l m = false from decide_eq_false fun q => hlen (by rw [q]))
    clear hlen
    go_enter Try.func11, Try.ntmps11
    go_wp2
    go_ret
    rw [HF.out]
    exact ⟨rfl, 0, rfl⟩

end Go.Proofs.Ythaeojbfjfhngaa
