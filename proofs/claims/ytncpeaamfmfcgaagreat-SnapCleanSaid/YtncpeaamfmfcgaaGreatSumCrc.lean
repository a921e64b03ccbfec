/- sum.Crc answers the check sum of all of its texts, one behind the other, and leaves the world as it was. -/
import Derived.Test.YtncpeaamfmfcgaaGreatBase
import Derived.Test.YtncpeaamfmfcgaaGreatSumPlain
namespace Go.Proofs.YtncpeaamfmfcgaaGreat
open Go.RowKit Go.Proofs.YtncpeaamfmfcgaaGreat.Sum

def crcOf (x : Nat) (l : List ByteArray) : Nat := l.foldl (fun y s => crcRun y s.data.toList) x

theorem crcOf_lt (l : List ByteArray) : ∀ {x : Nat}, x < 4294967296 → crcOf x l < 4294967296 := by
  induction l with
  | nil => intro x h; exact h
  | cons s l ih => intro x h; exact ih (crcRun_lt _ h)

theorem crcOf_take (x : Nat) (l : List ByteArray) (k : Nat) (h : k < l.length) : crcOf x (l.take (k + 1)) = crcRun (crcOf x (l.take k)) l[k].data.toList := by
  rw [List.take_succ_eq_append_getElem h]; unfold crcOf; rw [List.foldl_append]; rfl

theorem ret_i64 {a b : Int} (h : a = b) : Ending.returned (.int .i64 a) = .returned (.int .i64 b) := by rw [h]

theorem xor32 (x y : Nat) (hx : x < 4294967296) (hy : y < 4294967296) : bits .xor .u32 (x : Int) (y : Int) = ((x ^^^ y : Nat) : Int) := u32_xor_nat x y hx hy
theorem xor_byte (x : Nat) (b : UInt8) (hx : x < 4294967296) : bits .xor .u32 (x : Int) ((b.toNat : Int) % 4294967296) = ((x ^^^ b.toNat : Nat) : Int) := by
  have := b.toNat_lt
  rw [show ((b.toNat : Int) % 4294967296) = (b.toNat : Int) from by omega]
  exact xor32 x b.toNat hx (by omega)
theorem and_one (x : Nat) (hx : x < 4294967296) : bits .and .u32 (x : Int) 1 = (x : Int) % 2 := by
  have h := u32_and_nat x 1 hx (by decide)
  rw [nat_mask1] at h
  exact h
theorem xor_poly (x : Nat) (hx : x < 4294967296) : bits .xor .u32 ((x : Int) / 2) 3988292384 = ((x / 2 ^^^ 3988292384 : Nat) : Int) := by
  have h := xor32 (x / 2) 3988292384 (by omega) (by decide)
  exact h
theorem not32 (x : Nat) (hx : x < 4294967296) : wrap64 (bits .xor .u32 IntKind.u32.max (x : Int)) = ((4294967295 - x : Nat) : Int) := by
  have e : (4294967295 ^^^ x) = 4294967295 - x := by
    have h := congrArg BitVec.toNat (BitVec.xor_allOnes (x := BitVec.ofNat 32 x))
    rw [BitVec.toNat_xor, BitVec.toNat_not, BitVec.toNat_allOnes, BitVec.toNat_ofNat, Nat.mod_eq_of_lt hx, Nat.xor_comm] at h
    exact h
  rw [show IntKind.u32.max = ((4294967295 : Nat) : Int) from rfl, xor32 _ x (by decide) hx, e]
  unfold wrap64; omega

theorem take_size (s : ByteArray) : s.data.toList.take s.size = s.data.toList := by rw [Lib.size_eq, List.take_length]

theorem crcByte_bits (x : Nat) (b : UInt8) : crcBits 8 (x ^^^ b.toNat) = crcByte x b := rfl

set_option maxHeartbeats 2000000 in
theorem crc_any (l : List ByteArray) (v : Value) (w : World) (hv : Strs w v l) (hl : l.length ≤ 9223372036854775807) (hs : ∀ s ∈ l, s.size ≤ 9223372036854775807) :
    Calls Tryz.prog 103 #[v] w fun e w' => e = .returned (.int .i64 ((4294967295 - crcOf 4294967295 l : Nat) : Int)) ∧ w' = w := by
  rcases hv.cases with ⟨rfl, a, c, rfl, -⟩ | ⟨b, off, cap, rfl, hne, -, hc⟩
  all_goals clear hv
  · go_enter Tryz.func103, Tryz.ntmps103
    go_wp2
    refine wp_loop_rounds 1 ?_; rw [rounds_succ]
    go_wp2
    go_ret
    exact ⟨ret_i64 (not32 4294967295 (by decide)), rfl⟩
  · have HC := Lib.hid hc
    have HS := Lib.hid hs
    clear hc hs
    go_enter Tryz.func103, Tryz.ntmps103
    go_wp2
    go_loop [3, 10] (fun x i => ∃ k : Nat, k ≤ l.length ∧ i = .int .i64 k ∧ x = .int .u32 (crcOf 4294967295 (l.take k) : Nat)) (fun _ i => l.length - (intOf i).toNat)
    case atStart => exact ⟨0, Nat.zero_le _, rfl, rfl⟩
    case round =>
      obtain ⟨k, hk, rfl, rfl⟩ := hrel
      have hx := crcOf_lt (l.take k) (x := 4294967295) (by decide)
      by_cases hlt : k < l.length
      · have hcell := HC.out k hlt
        have hss := HS.out l[k] (List.getElem_mem hlt)
        have HN := Lib.hid (crcOf_take 4294967295 l k hlt)
        generalize crcOf 4294967295 (l.take k) = y at *
        generalize l[k] = s at *
        go_wp2
        go_loop [3, 16] (fun x i => ∃ j : Nat, j ≤ s.size ∧ i = .int .i64 j ∧ x = .int .u32 (crcRun y (s.data.toList.take j) : Nat)) (fun _ i => s.size - (intOf i).toNat)
        case atStart => exact ⟨0, Nat.zero_le _, rfl, rfl⟩
        case round =>
          obtain ⟨j, hj, rfl, rfl⟩ := hrel
          have hy := crcRun_lt (s.data.toList.take j) hx
          have hsz := Lib.size_eq s
          by_cases hjt : j < s.size
          · have hjt' : j < s.data.toList.length := by omega
            have HM := Lib.hid (crcRun_take_succ y s.data.toList j hjt')
            clear hsz
            have hxb := xor_byte (crcRun y (s.data.toList.take j)) s[j] hy
            have hbyte : s.data.toList[j] = s[j] := rfl
            rw [hbyte] at HM
            generalize crcRun y (s.data.toList.take j) = y1 at *
            go_wp2
            have hq := Nat.xor_lt_two_pow (n := 32) hy (show s[j].toNat < 2 ^ 32 from by have := s[j].toNat_lt; omega)
            have HQ := Lib.hid (crcByte_bits y1 s[j])
            clear hxb
            generalize y1 ^^^ s[j].toNat = q at *
            go_loop [3, 25] (fun x i => ∃ m : Nat, m ≤ 8 ∧ i = .int .i64 m ∧ x = .int .u32 (crcBits m q : Nat)) (fun _ i => 8 - (intOf i).toNat)
            case atStart => exact ⟨0, Nat.zero_le _, rfl, rfl⟩
            case round =>
              obtain ⟨m, hm, rfl, rfl⟩ := hrel
              have hr := crcBits_lt m hq
              by_cases hmt : m < 8
              · have HR := Lib.hid (show crcBits (m + 1) q = crcBit (crcBits m q) from rfl)
                generalize crcBits m q = r at *
                have hand := and_one r hr
                have hxp := xor_poly r hr
                by_cases hodd : r % 2 = 1
                · have hb : ((r : Int) % 2 == 1) = true := by rw [beq_iff_eq]; omega
                  have HC' := Lib.hid (show crcBit r = r / 2 ^^^ 3988292384 from by unfold crcBit; rw [if_pos hodd])
                  clear hodd
                  go_wp2
                  go_round
                  case rel => exact ⟨m + 1, by omega, by go_num, by rw [HR.out, HC'.out]⟩
                  case measure => simp [intOf]; omega
                · have hb : ((r : Int) % 2 == 1) = false := by rw [beq_eq_false_iff_ne]; omega
                  have HC' := Lib.hid (show crcBit r = r / 2 from by unfold crcBit; rw [if_neg hodd])
                  clear hodd
                  go_wp2
                  go_round
                  case rel => exact ⟨m + 1, by omega, by go_num, by rw [HR.out, HC'.out]; rfl⟩
                  case measure => simp [intOf]; omega
              · obtain rfl : m = 8 := by omega
                go_wp2
                go_round
                case rel => exact ⟨j + 1, by omega, by go_num, by rw [HM.out, ← HQ.out]⟩
                case measure => simp [intOf]; omega
          · obtain rfl : j = s.size := by omega
            clear hsz
            go_wp2
            go_round
            case rel => exact ⟨k + 1, by omega, by go_num, by rw [HN.out, take_size]⟩
            case measure => simp [intOf]; omega
      · have : k = l.length := by omega
        subst this
        go_wp2
        go_ret
        rw [List.take_length] at hx
        exact ⟨ret_i64 (not32 _ hx), rfl⟩

end Go.Proofs.YtncpeaamfmfcgaaGreat
