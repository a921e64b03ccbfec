/- wire: a reader's numbers. -/
import Derived.Test.YtncpeaamfmfcgaaGreatWire
import Derived.Test.YtncpeaamfmfcgaaGreatSumScan
import Derived.BigQuiet
import Derived.Deep.QuietTactic
namespace Go.Proofs.YtncpeaamfmfcgaaGreat
open Go.RowKit

/-- What a number's bytes come to, and how many there are. -/
def dec : Nat → Nat → List UInt8 → Option (Nat × Nat)
  | _, _, [] => none
  | i, acc, c :: r => if 10 ≤ i then none else if i = 9 ∧ 1 < c.toNat then none else if 128 ≤ c.toNat then dec (i + 1) (acc + c.toNat % 128 * 128 ^ i) r else if c.toNat = 0 ∧ 0 < i then none else some (acc + c.toNat % 128 * 128 ^ i, i + 1)

def zig (n : Nat) : Int := if n % 2 = 0 then ((n / 2 : Nat) : Int) else -((n / 2 : Nat) : Int) - 1

/-- Block g is a reader of s, at the place p, that has no error. -/
structure IsReader (w : World) (g : Nat) (s : ByteArray) (p : Nat) : Prop where
  cells : w.heap[g]? = some (.cells #[.int .i64 0, .string s, .int .i64 (p : Int)] 139 (0, 0))

theorem IsReader.facts {w : World} {g : Nat} {s : ByteArray} {p : Nat} (h : IsReader w g s p) :
    w.cell? ⟨g, 0, none⟩ = some (.int .i64 0) ∧ w.cell? ⟨g, 1, none⟩ = some (.string s) ∧ w.cell? ⟨g, 2, none⟩ = some (.int .i64 (p : Int)) ∧
    w.frozen? ⟨g, 0, none⟩ = false ∧ w.frozen? ⟨g, 1, none⟩ = false ∧ w.frozen? ⟨g, 2, none⟩ = false := by
  simp [World.cell?, World.frozen?, h.cells]

set_option maxHeartbeats 1000000 in
theorem newReader_any (s : ByteArray) (w : World) (hs : s.size ≤ 281474976710656) :
    Calls Tryz.prog 107 #[.string s] w fun e w' => ∃ g, e = .returned (.pointer (some ⟨g, 0, none⟩)) ∧ w.heap.size ≤ g ∧ IsReader w' g s 0 ∧ Below w.heap.size w w' := by
  go_enter Tryz.func107, Tryz.ntmps107
  go_wp2_with fail
  refine (clone_any s _ hs).mono ?_
  rintro e w1 ⟨rfl, hb⟩
  go_wp2
  go_ret
  exact ⟨_, rfl, hb.size, ⟨heap_alloc_new w1 _⟩, hb.alloc hb.size _⟩

theorem and127 (b : UInt8) : bits .and .u8 (b.toNat : Int) 127 = ((b.toNat % 128 : Nat) : Int) := by
  have key : ∀ m : Fin 256, bits .and .u8 (m.val : Int) 127 = ((m.val % 128 : Nat) : Int) := by decide +kernel
  exact key ⟨b.toNat, b.toNat_lt⟩
theorem and128 (b : UInt8) : (bits .and .u8 (b.toNat : Int) 128 != 0) = decide (128 ≤ b.toNat) := by
  have key : ∀ m : Fin 256, (bits .and .u8 (m.val : Int) 128 != 0) = decide (128 ≤ m.val) := by decide +kernel
  exact key ⟨b.toNat, b.toNat_lt⟩
theorem wrap_u64_nat (x : Nat) (h : x < 18446744073709551616) : IntKind.u64.wrap (x : Int) = (x : Int) := by rw [IntKind.wrap_u64]; omega
theorem grow_lt (k x : Nat) (hk : k ≤ 9) (hx : x < 128) (h9 : k = 9 → x ≤ 1) : x * 2 ^ (7 * k) < 18446744073709551616 := by
  rcases Nat.lt_or_ge k 9 with h | h
  · have h1 : 2 ^ (7 * k) ≤ 2 ^ 56 := Nat.pow_le_pow_right (by omega) (by omega)
    have h2 : x * 2 ^ (7 * k) ≤ 127 * 2 ^ 56 := Nat.mul_le_mul (by omega) h1
    omega
  · obtain rfl : k = 9 := by omega
    have := h9 rfl
    omega
theorem grow_add (k acc x : Nat) (hk : k ≤ 9) (hx : x < 128) (h9 : k = 9 → x ≤ 1) (ha : acc < 128 ^ k) : acc + x * 128 ^ k < 18446744073709551616 ∧ (x < 128 → acc + x * 128 ^ k < 128 ^ (k + 1)) := by
  have e : 128 ^ k = 2 ^ (7 * k) := by rw [show 128 = 2 ^ 7 from rfl, ← Nat.pow_mul]
  refine ⟨?_, fun hx => ?_⟩
  · rw [e] at ha ⊢
    rcases Nat.lt_or_ge k 9 with h | h
    · have h1 : 2 ^ (7 * k) ≤ 2 ^ 56 := Nat.pow_le_pow_right (by omega) (by omega)
      have h2 : x * 2 ^ (7 * k) ≤ 127 * 2 ^ 56 := Nat.mul_le_mul (by omega) h1
      omega
    · obtain rfl : k = 9 := by omega
      have := h9 rfl
      omega
  · rw [Nat.pow_succ]
    have h2 : x * 128 ^ k ≤ 127 * 128 ^ k := Nat.mul_le_mul (by omega) (Nat.le_refl _)
    omega
theorem or_grow (k acc : Nat) (b : UInt8) (hk : k ≤ 9) (h9 : k = 9 → b.toNat ≤ 1) (ha : acc < 128 ^ k) :
    bits .or .u64 (acc : Int) (IntKind.u64.wrap (IntKind.u64.wrap (bits .and .u8 (b.toNat : Int) 127) * 2 ^ (7 * k))) = ((acc + b.toNat % 128 * 128 ^ k : Nat) : Int) := by
  have hx : b.toNat % 128 < 128 := Nat.mod_lt _ (by omega)
  have h9' : k = 9 → b.toNat % 128 ≤ 1 := fun q => by have := h9 q; omega
  have hm := grow_lt k _ hk hx h9'
  have hs := (grow_add k acc _ hk hx h9' ha).1
  have e : 128 ^ k = 2 ^ (7 * k) := by rw [show 128 = 2 ^ 7 from rfl, ← Nat.pow_mul]
  rw [e] at ha hs ⊢
  rw [and127, wrap_u64_nat _ (by omega), show ((b.toNat % 128 : Nat) : Int) * 2 ^ (7 * k) = ((b.toNat % 128 * 2 ^ (7 * k) : Nat) : Int) by rw [Int.natCast_mul, Int.natCast_pow]; rfl, wrap_u64_nat _ hm]
  generalize b.toNat % 128 = x at *
  have hor : acc ||| x * 2 ^ (7 * k) = acc + x * 2 ^ (7 * k) := by
    rw [Nat.or_comm, Nat.mul_comm, ← Nat.two_pow_add_eq_or_of_lt ha, Nat.add_comm]
  have e : (BitVec.ofInt 64 (acc : Int) ||| BitVec.ofInt 64 ((x * 2 ^ (7 * k) : Nat) : Int)).toNat = acc + x * 2 ^ (7 * k) := by
    rw [BitVec.toNat_or, ofInt_u64 acc (by omega), ofInt_u64 (x * 2 ^ (7 * k)) (by omega), hor]
  show IntKind.u64.wrap ((BitVec.ofInt 64 (acc : Int) ||| BitVec.ofInt 64 ((x * 2 ^ (7 * k) : Nat) : Int)).toNat : Int) = _
  rw [e, wrap_u64_nat _ hs]

theorem ofInt_neg1 (x : Nat) (hx : x < 9223372036854775808) : bits .xor .i64 (x : Int) (-1) = -(x : Int) - 1 := by
  have e : (BitVec.ofInt 64 (x : Int) ^^^ BitVec.ofInt 64 (-1)).toNat = 18446744073709551615 - x := by
    rw [show BitVec.ofInt 64 (-1) = BitVec.allOnes 64 from rfl, BitVec.xor_allOnes, BitVec.toNat_not, ofInt_u64 x (by omega)]
  show IntKind.i64.wrap ((BitVec.ofInt 64 (x : Int) ^^^ BitVec.ofInt 64 (-1)).toNat : Int) = _
  rw [e, IntKind.wrap_i64]
  omega
theorem xor_zero_i (x : Nat) (hx : x < 9223372036854775808) : bits .xor .i64 (x : Int) 0 = (x : Int) := by
  have e : (BitVec.ofInt 64 (x : Int) ^^^ BitVec.ofInt 64 0).toNat = x := by
    rw [BitVec.toNat_xor, ofInt_u64 x (by omega), show (BitVec.ofInt 64 0).toNat = 0 from rfl, Nat.xor_zero]
  show IntKind.i64.wrap ((BitVec.ofInt 64 (x : Int) ^^^ BitVec.ofInt 64 0).toNat : Int) = _
  rw [e, IntKind.wrap_i64]
  omega
theorem and_one64 (x : Nat) (hx : x < 18446744073709551616) : bits .and .u64 (x : Int) 1 = ((x % 2 : Nat) : Int) := by
  have e : (BitVec.ofInt 64 (x : Int) &&& BitVec.ofInt 64 1).toNat = x % 2 := by
    rw [BitVec.toNat_and, ofInt_u64 x hx, show (BitVec.ofInt 64 1).toNat = 1 from rfl, Nat.and_one_is_mod]
  show IntKind.u64.wrap ((BitVec.ofInt 64 (x : Int) &&& BitVec.ofInt 64 1).toNat : Int) = _
  rw [e, wrap_u64_nat _ (by omega)]
theorem zig_bits (x : Nat) (hx : x < 18446744073709551616) : bits .xor .i64 (wrap64 ((x : Int) / 2)) (wrap64 (-wrap64 (bits .and .u64 (x : Int) 1))) = zig x := by
  rw [and_one64 x hx, show wrap64 ((x : Int) / 2) = ((x / 2 : Nat) : Int) by unfold wrap64; omega]
  unfold zig
  rcases Nat.mod_two_eq_zero_or_one x with h | h
  · rw [h, if_pos rfl]
    rw [show wrap64 (-wrap64 ((0 : Nat) : Int)) = 0 by unfold wrap64; omega]
    exact xor_zero_i (x / 2) (by omega)
  · rw [h, if_neg (by decide)]
    rw [show wrap64 (-wrap64 ((1 : Nat) : Int)) = -1 by unfold wrap64; omega]
    exact ofInt_neg1 (x / 2) (by omega)

/-- What a reader's num hands back. -/
def ReadOut (o : Option (Nat × Nat)) (e : Ending) : Prop :=
  match o with
  | some (n, k) => e = .returned (.tuple #[.int .i64 (zig n), .int .i64 (k : Int), .int .i64 0])
  | none => ∃ x : Int, x ≠ 0 ∧ e = .returned (.tuple #[.int .i64 0, .int .i64 0, .int .i64 x])
theorem ReadOut.no (x : Int) (hx : x ≠ 0) {o : Option (Nat × Nat)} (ho : o = none) : ReadOut o (.returned (.tuple #[.int .i64 0, .int .i64 0, .int .i64 x])) := by
  subst ho; exact ⟨x, hx, rfl⟩

theorem read_done {n k : Nat} {x : Int} (h : x = zig n) : ReadOut (some (n, k + 1)) (.returned (.tuple #[.int .i64 x, .int .i64 ((k : Int) + 1), .int .i64 0])) := by
  subst h; rfl

set_option maxRecDepth 100000 in
set_option maxHeartbeats 4000000 in
theorem readNum_any (g : Nat) (s : ByteArray) (w : World) (h : IsReader w g s 0) (_hs : s.size ≤ 1000000) :
    Calls Tryz.prog 127 #[.pointer (some ⟨g, 0, none⟩)] w fun e w' => (∃ nd, w' = w.drewN nd) ∧ ReadOut (dec 0 0 s.data.toList) e := by
  obtain ⟨-, c1, c2, -, -, -⟩ := h.facts
  have c2 : w.cell? ⟨g, 2, none⟩ = some (.int .i64 0) := c2
  clear h
  go_enter Tryz.func127, Tryz.ntmps127
  go_wp2
  go_loopw [5, 6] (fun nv iv wr => ∃ k acc nd : Nat, nv = .int .u64 (acc : Int) ∧ iv = .int .i64 (k : Int) ∧ k ≤ 10 ∧ wr = w.drewN nd ∧ acc < 128 ^ k ∧ dec k acc (s.data.toList.drop k) = dec 0 0 s.data.toList) (fun _ iv _ => 10 - (intOf iv).toNat)
  case atStart => exact ⟨0, 0, 0, rfl, rfl, by omega, rfl, by decide, rfl⟩
  case round =>
    obtain ⟨k, acc, nd, rfl, rfl, hk, rfl, hacc, hdec⟩ := hrel
    have HA := Lib.hid hacc
    have HD := Lib.hid hdec
    clear hacc hdec
    by_cases h10 : k = 10
    · subst h10
      have e10 : ((10 : Nat) : Int) = 10 := rfl
      simp only [e10]
      clear hk e10
      go_wp2
      go_ret3
      exact ⟨⟨_, rfl⟩, ReadOut.no 4 (by decide) (by rw [← HD.out]; cases s.data.toList.drop 10 <;> simp [dec])⟩
    · have t0 : ((k : Int) == 10) = false := by rw [beq_eq_false_iff_ne]; omega
      by_cases hshort : s.size ≤ k
      · have t1 : (s.size : Int) ≤ k := by omega
        have HE := Lib.hid (show s.data.toList.drop k = [] by rw [List.drop_eq_nil_iff]; rw [Lib.size_eq] at hshort; exact hshort)
        clear h10
        go_wp2
        go_quiet (fail)
        go_wp2
        go_ret3
        exact ⟨⟨_, World.drewN_drewN ..⟩, ReadOut.no 5 (by decide) (by rw [← HD.out, HE.out]; simp [dec])⟩
      · have hlt : k < s.size := by omega
        have hp0 : (0 : Int) ≤ k := by omega
        have hp1 : (k : Int) < s.size := by omega
        have HE := Lib.hid (show s.data.toList.drop k = s[k] :: s.data.toList.drop (k + 1) from List.drop_eq_getElem_cons (by rw [Lib.size_eq] at hlt; exact hlt))
        have hk9 : k ≤ 9 := by omega
        clear h10 hk
        go_wp2
        go_quiet (fail)
        go_wp2_with fail
        go_quiet (fail)
        generalize s[k] = b at *
        clear hp1 hlt hshort
        have hb := b.toNat_lt
        by_cases h9 : k = 9 ∧ 1 < b.toNat
        · obtain ⟨h9a, h1'⟩ := h9
          have t9 : ((k : Int) == 9) = true := by rw [beq_iff_eq]; omega
          have t1 : (1 : Int) < b.toNat := by omega
          have HN := Lib.hid (show dec k acc (b :: s.data.toList.drop (k + 1)) = none by simp [dec, h9a, h1'])
          clear hk9 h9a h1'
          go_wp2
          go_ret3
          exact ⟨⟨_, rfl⟩, ReadOut.no 4 (by decide) (by rw [← HD.out, HE.out, HN.out])⟩
        · have HR := Lib.hid (or_grow k acc b hk9 (fun q => by omega) HA.out)
          have H9 := Lib.hid h9
          have H128 := Lib.hid (and128 b)
          have HK := Lib.hid hk9
          obtain ⟨acc', hacc'⟩ : ∃ a : Nat, a = acc + b.toNat % 128 * 128 ^ k := ⟨_, rfl⟩
          rw [← hacc'] at HR
          have HC := Lib.hid hacc'
          have HB := Lib.hid (grow_add k acc (b.toNat % 128) hk9 (by omega) (fun q => by omega) HA.out)
          have hor := HR.out
          clear hacc' h9
          by_cases h128 : 128 ≤ b.toNat
          · have t9 : ((k : Int) == 9) = false := by rw [beq_eq_false_iff_ne]; have := H9.out; omega
            have t2 : (bits .and .u8 (b.toNat : Int) 128 != 0) = true := by rw [H128.out]; exact decide_eq_true h128
            have hk7 : (0 : Int) ≤ 7 * k := by omega
            have HN := Lib.hid (show dec k acc (b :: s.data.toList.drop (k + 1)) = dec (k + 1) acc' (s.data.toList.drop (k + 1)) by
              have h9 := H9.out
              rw [HC.out]
              simp only [dec]
              rw [if_neg (by omega), if_neg h9, if_pos h128])
            go_wp2
            go_roundw
            case rel => exact ⟨k + 1, acc', _, rfl, by go_num, by omega, rfl, by rw [HC.out]; exact HB.out.2 (by omega), by rw [← HN.out, ← HE.out, HD.out]⟩
            case measure => simp [intOf]; omega
          · have t2 : (bits .and .u8 (b.toNat : Int) 128 != 0) = false := by rw [H128.out]; exact decide_eq_false h128
            have hk7 : (0 : Int) ≤ 7 * k := by omega
            have HT9 : ((k : Int) == 9) = false ∨ ((k : Int) == 9) = true ∧ decide ((1 : Int) < b.toNat) = false := by
              rcases Nat.lt_or_ge k 9 with h | h
              · left; rw [beq_eq_false_iff_ne]; omega
              · right; have := H9.out; exact ⟨by rw [beq_iff_eq]; omega, decide_eq_false (by omega)⟩
            have HN0 := Lib.hid (show b.toNat = 0 → 0 < k → dec k acc (b :: s.data.toList.drop (k + 1)) = none by
              intro h00 h0k
              have h9 := H9.out
              simp only [dec]
              rw [if_neg (by omega), if_neg h9, if_neg h128, if_pos ⟨h00, h0k⟩])
            have HN1 := Lib.hid (show ¬ (b.toNat = 0 ∧ 0 < k) → dec k acc (b :: s.data.toList.drop (k + 1)) = some (acc', k + 1) by
              intro h0
              have h9 := H9.out
              rw [HC.out]
              simp only [dec]
              rw [if_neg (by omega), if_neg h9, if_neg h128, if_neg h0])
            have HZ := Lib.hid (zig_bits acc' (by rw [HC.out]; exact HB.out.1))
            clear h128 hb
            rcases HT9 with ht | ⟨ht, hu⟩
            all_goals
              go_wp2
              all_goals first
                | (go_ret3; exact ⟨⟨_, rfl⟩, ReadOut.no 4 (by decide) (by rw [← HD.out, HE.out]; exact HN0.out (by omega) (by omega))⟩)
                | (go_quiet (fail)
                   go_wp2
                   go_ret3
                   refine ⟨⟨_, World.drewN_drewN ..⟩, ?_⟩
                   rw [← HD.out, HE.out, HN1.out (by omega)]
                   exact read_done HZ.out)

theorem dec_fits : ∀ (l : List UInt8) (i acc n k : Nat), dec i acc l = some (n, k) → k ≤ i + l.length
  | [], _, _, _, _, h => by simp [dec] at h
  | c :: r, i, acc, n, k, h => by
    simp only [dec] at h
    split at h
    · cases h
    · split at h
      · cases h
      · split at h
        · have := dec_fits r _ _ _ _ h
          rw [List.length_cons]; omega
        · split at h
          · cases h
          · injection h with h
            injection h with h1 h2
            rw [List.length_cons]; omega

theorem below_drawN {B : Nat} {a w : World} (h : Below B a w) (n : Nat) : Below B a (w.drewN n) := ⟨h.os, h.tape, h.output, h.size, h.block⟩
/-- Block g is a reader of s, at its front, that has an error. -/
structure BadReader (w : World) (g : Nat) (s : ByteArray) (x : Int) : Prop where
  cells : w.heap[g]? = some (.cells #[.int .i64 x, .string s, .int .i64 0] 139 (0, 0))

theorem IsReader.drawn {w : World} {g : Nat} {s : ByteArray} {p : Nat} (h : IsReader w g s p) (n : Nat) : IsReader (w.drewN n) g s p := ⟨h.cells⟩
theorem IsReader.setAt {w : World} {g : Nat} {s : ByteArray} {p : Nat} (h : IsReader w g s p) (k : Nat) : IsReader (w.setCell ⟨g, 2, none⟩ (.int .i64 (k : Int))) g s k := ⟨setCell_row h.cells _⟩
theorem IsReader.setErr {w : World} {g : Nat} {s : ByteArray} (h : IsReader w g s 0) (x : Int) : BadReader (w.setCell ⟨g, 0, none⟩ (.int .i64 x)) g s x := ⟨setCell_row h.cells _⟩

set_option maxHeartbeats 1000000 in
theorem roff_any (g p : Nat) (s : ByteArray) (w : World) (h : IsReader w g s p) : Calls Tryz.prog 126 #[.pointer (some ⟨g, 0, none⟩)] w fun e w' => e = .returned (.bool false) ∧ w = w' := by
  obtain ⟨c0, -, -, -, -, -⟩ := h.facts
  go_enter Tryz.func126, Tryz.ntmps126
  go_wp2_with fail
  refine (wrong_any _ _ c0 rfl).mono ?_
  rintro e w1 ⟨rfl, rfl⟩
  go_wp2
  go_ret
  exact ⟨rfl, rfl⟩

set_option maxHeartbeats 1000000 in
theorem rfail_any (g p : Nat) (s : ByteArray) (x : Int) (w : World) (h : IsReader w g s p) : Calls Tryz.prog 128 #[.pointer (some ⟨g, 0, none⟩), .int .i64 x] w fun e w' => e = .returned (.tuple #[]) ∧ w' = w.setCell ⟨g, 0, none⟩ (.int .i64 x) := by
  obtain ⟨c0, -, -, f0, -, -⟩ := h.facts
  go_enter Tryz.func128, Tryz.ntmps128
  go_wp2
  go_end0
  exact ⟨rfl, rfl⟩

/-- What a number comes to, and its reader behind it. -/
def NumOut (B g : Nat) (s : ByteArray) (w : World) (e : Ending) (w' : World) : Prop :=
  Below B w w' ∧ match dec 0 0 s.data.toList with
    | some (n, k) => e = .returned (.int .i64 (zig n)) ∧ IsReader w' g s k
    | none => ∃ x : Int, x ≠ 0 ∧ e = .returned (.int .i64 0) ∧ BadReader w' g s x

set_option maxHeartbeats 2000000 in
theorem rNum_any (B g : Nat) (s : ByteArray) (w : World) (h : IsReader w g s 0) (hs : s.size ≤ 1000000) (hg : B ≤ g) :
    Calls Tryz.prog 108 #[.pointer (some ⟨g, 0, none⟩)] w (NumOut B g s w) := by
  have HR := Lib.hid h
  obtain ⟨-, -, -, -, -, f2⟩ := h.facts
  have hc2 := h.facts.2.2.1
  have hlt := (Array.getElem?_eq_some_iff.1 h.cells).1
  clear h
  go_enter Tryz.func108, Tryz.ntmps108
  go_wp2_with fail
  refine (roff_any g 0 s _ HR.out).mono ?_
  rintro e w1 ⟨rfl, rfl⟩
  go_wp2_with fail
  refine (readNum_any g s _ HR.out hs).mono ?_
  rintro e w1 ⟨⟨nd, rfl⟩, hout⟩
  cases hd : dec 0 0 s.data.toList with
  | none =>
    rw [hd] at hout
    obtain ⟨x, hx, rfl⟩ := hout
    have HX := Lib.hid hx
    have HD := Lib.hid hd
    have hx' : (x != 0) = true := by simpa using hx
    clear hx hd
    go_wp2_with fail
    refine (rfail_any g 0 s x _ (HR.out.drawn nd)).mono ?_
    rintro e w1 ⟨rfl, rfl⟩
    go_wp2
    go_ret
    unfold NumOut
    rw [HD.out]
    exact ⟨(below_drawN (Below.refl B w) nd).setCell (p := ⟨g, 0, none⟩) hg _, x, HX.out, rfl, (HR.out.drawn nd).setErr x⟩
  | some o =>
    obtain ⟨n, k⟩ := o
    rw [hd] at hout
    have hout : e = _ := hout
    subst hout
    have HD := Lib.hid hd
    clear hd
    go_wp2
    go_ret
    unfold NumOut
    rw [HD.out]
    exact ⟨(below_drawN (Below.refl B w) nd).setCell (p := ⟨g, 2, none⟩) hg _, rfl, (HR.out.drawn nd).setAt k⟩

set_option maxHeartbeats 1000000 in
theorem left_any (g p : Nat) (s : ByteArray) (w : World) (h : IsReader w g s p) (hs : s.size ≤ 1000000) (hp : p ≤ s.size) : Calls Tryz.prog 129 #[.pointer (some ⟨g, 0, none⟩)] w fun e w' => e = .returned (.int .i64 ((s.size : Int) - p)) ∧ ∃ n, w' = w.drewN n := by
  obtain ⟨-, c1, c2, -, -, -⟩ := h.facts
  clear h
  have hp' : (p : Int) ≤ s.size := by omega
  go_enter Tryz.func129, Tryz.ntmps129
  go_wp2
  go_quiet (fail)
  go_wp2
  go_ret
  exact ⟨rfl, _, rfl⟩

set_option maxHeartbeats 1000000 in
theorem end_ok (g p : Nat) (s : ByteArray) (w : World) (h : IsReader w g s p) (hs : s.size ≤ 1000000) (hp : p = s.size) : Calls Tryz.prog 109 #[.pointer (some ⟨g, 0, none⟩)] w fun e w' => e = .returned (.int .i64 0) ∧ ∃ n, w' = w.drewN n := by
  obtain ⟨c0, -, -, -, -, -⟩ := h.facts
  have HR := Lib.hid h
  have h1 : decide (p < s.size) = false := decide_eq_false (by omega)
  have HP := Lib.hid (show p ≤ s.size by omega)
  clear h hp
  go_enter Tryz.func109, Tryz.ntmps109
  go_wp2_with fail
  refine (wrong_any _ _ c0 rfl).mono ?_
  rintro e w1 ⟨rfl, rfl⟩
  go_wp2_with fail
  refine (left_any g p s _ HR.out hs HP.out).mono ?_
  rintro e w1 ⟨rfl, n, rfl⟩
  go_wp2
  go_ret
  exact ⟨rfl, _, rfl⟩

set_option maxHeartbeats 1000000 in
theorem end_form (g p : Nat) (s : ByteArray) (w : World) (h : IsReader w g s p) (hs : s.size ≤ 1000000) (hp : p < s.size) : Calls Tryz.prog 109 #[.pointer (some ⟨g, 0, none⟩)] w fun e w' => e = .returned (.int .i64 4) ∧ ∃ n, w' = w.drewN n := by
  obtain ⟨c0, -, -, -, -, -⟩ := h.facts
  have HR := Lib.hid h
  have h1 : decide (p < s.size) = true := decide_eq_true (by omega)
  have HP := Lib.hid (show p ≤ s.size by omega)
  clear h hp
  go_enter Tryz.func109, Tryz.ntmps109
  go_wp2_with fail
  refine (wrong_any _ _ c0 rfl).mono ?_
  rintro e w1 ⟨rfl, rfl⟩
  go_wp2_with fail
  refine (left_any g p s _ HR.out hs HP.out).mono ?_
  rintro e w1 ⟨rfl, n, rfl⟩
  go_wp2
  go_ret
  exact ⟨rfl, _, rfl⟩

set_option maxHeartbeats 1000000 in
theorem end_bad (g : Nat) (s : ByteArray) (x : Int) (w : World) (h : BadReader w g s x) (hx : x ≠ 0) : Calls Tryz.prog 109 #[.pointer (some ⟨g, 0, none⟩)] w fun e w' => e = .returned (.int .i64 x) ∧ w = w' := by
  have c0 : w.cell? ⟨g, 0, none⟩ = some (.int .i64 x) := by simp [World.cell?, h.cells]
  have hx' : (x != 0) = true := by simpa using hx
  clear h hx
  go_enter Tryz.func109, Tryz.ntmps109
  go_wp2_with fail
  refine (wrong_x ⟨g, 0, none⟩ x _ c0 rfl).mono ?_
  rintro e w1 ⟨rfl, rfl⟩
  go_wp2_with fail
  refine (wrong_x ⟨g, 0, none⟩ x _ c0 rfl).mono ?_
  rintro e w1 ⟨rfl, rfl⟩
  go_wp2
  go_ret
  exact ⟨rfl, rfl⟩

/-- What a marker's bytes tell. -/
def countOf (l : List UInt8) : Option Int := match dec 0 0 l with
  | some (n, k) => if k = l.length then some (zig n) else none
  | none => none
def CountOut (o : Option Int) (e : Ending) : Prop := ∃ (v : Int) (b : Bool), e = .returned (.tuple #[.int .i64 v, .bool b]) ∧ match o with
  | some n => b = true ∧ v = n
  | none => b = false

set_option maxHeartbeats 2000000 in
theorem count_any (s : ByteArray) (w : World) (h1 : 1 ≤ s.size) (hs : s.size ≤ 1000000) :
    Calls Tryz.prog 70 #[.string s] w fun e w' => CountOut (countOf (s.data.toList.drop 1)) e ∧ Below w.heap.size w w' := by
  have h1' : (1 : Int) ≤ s.size := by omega
  have hsz : (s.extract 1 s.size).size ≤ 1000000 := by simp; omega
  rw [← extract_from s 1]
  have HSZ := Lib.hid hsz
  clear hsz
  go_enter Tryz.func70, Tryz.ntmps70
  go_wp2_with fail
  refine (newReader_any (s.extract 1 s.size) _ (by have := HSZ.out; omega)).mono ?_
  rintro e w1 ⟨g, rfl, hg, hr, hb⟩
  generalize het : s.extract 1 s.size = t at *
  have HT := Lib.hid het
  clear het
  have HR := Lib.hid hr
  have HB := Lib.hid hb
  have HG := Lib.hid hg
  clear hr hb hg
  go_wp2_with fail
  refine (rNum_any w.heap.size g t _ HR.out HSZ.out HG.out).mono ?_
  rintro e w2 ⟨hb2, hout⟩
  have HB2 := Lib.hid (HB.out.trans hb2)
  clear hb2
  cases hd : dec 0 0 t.data.toList with
  | none =>
    rw [hd] at hout
    obtain ⟨x, hx, rfl, hbad⟩ := hout
    have HC := Lib.hid (show countOf t.data.toList = none by unfold countOf; rw [hd])
    have HD := Lib.hid hbad
    have hx' : (x == 0) = false := by simpa using hx
    clear hd hbad
    go_wp2_with fail
    refine (end_bad g t x _ HD.out hx).mono ?_
    rintro e w3 ⟨rfl, rfl⟩
    clear hx
    go_wp2
    go_ret2
    rw [HT.out, HC.out]
    exact ⟨⟨_, _, rfl, rfl⟩, HB2.out⟩
  | some o =>
    obtain ⟨n, k⟩ := o
    rw [hd] at hout
    obtain ⟨he, hrd⟩ := hout
    subst he
    have hk : k ≤ t.size := by
      have := dec_fits _ _ _ _ _ hd
      rw [Lib.size_eq]; omega
    have HD := Lib.hid hrd
    by_cases hq : k = t.size
    · have HC := Lib.hid (show countOf t.data.toList = some (zig n) by unfold countOf; rw [hd]; show (if k = _ then _ else _) = _; rw [if_pos (by rw [hq, Lib.size_eq])])
      clear hd hrd
      go_wp2_with fail
      refine (end_ok g k t _ HD.out HSZ.out hq).mono ?_
      rintro e w3 ⟨rfl, nd, rfl⟩
      clear hq
      go_wp2
      go_ret2
      rw [HT.out, HC.out]
      exact ⟨⟨_, _, rfl, rfl, rfl⟩, below_drawN HB2.out _⟩
    · have HC := Lib.hid (show countOf t.data.toList = none by unfold countOf; rw [hd]; show (if k = _ then _ else _) = _; rw [if_neg (by rw [← Lib.size_eq]; exact hq)])
      have hlt : k < t.size := by omega
      clear hd hrd hq
      go_wp2_with fail
      refine (end_form g k t _ HD.out HSZ.out hlt).mono ?_
      rintro e w3 ⟨rfl, nd, rfl⟩
      clear hlt
      go_wp2
      go_ret2
      rw [HT.out, HC.out]
      exact ⟨⟨_, _, rfl, rfl⟩, below_drawN HB2.out _⟩

end Go.Proofs.YtncpeaamfmfcgaaGreat
