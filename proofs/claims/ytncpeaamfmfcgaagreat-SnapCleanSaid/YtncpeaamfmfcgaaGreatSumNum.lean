/- sum.four lays a number in four bytes; sum.num reads one. -/
import Derived.Test.YtncpeaamfmfcgaaGreatBase
import Derived.Test.YtncpeaamfmfcgaaGreatSumPlain
import Derived.BigQuiet
import Derived.Deep.QuietTactic
namespace Go.Proofs.YtncpeaamfmfcgaaGreat
open Go.RowKit Go.Proofs.YtncpeaamfmfcgaaGreat.Sum

theorem four_cells (n : Nat) (h : n < 4294967296) (w : World) (e : TypeId) : ∀ j (hj : j < (four n).length),
    (w.alloc (.cells #[.int .u8 ((n : Int) / 16777216), .int .u8 ((n : Int) / 65536 % 256), .int .u8 ((n : Int) / 256 % 256), .int .u8 ((n : Int) % 256)] e)).cell? ((⟨w.heap.size, 0, none⟩ : Addr).add j) = some (.int .u8 ((four n)[j].toNat : Int)) := by
  intro j hj
  have hj4 : j < 4 := by rw [four_length] at hj; exact hj
  have hadd : (⟨w.heap.size, 0, none⟩ : Addr).add j = ⟨w.heap.size, j, none⟩ := by unfold Addr.add; split <;> simp_all
  rw [hadd, World.cell?_alloc_at _ _ _ _ rfl]
  unfold four
  match j, hj4 with
  | 0, _ => show some (Value.int .u8 ((n : Int) / 16777216)) = some (.int .u8 ((UInt8.ofNat (n / 16777216)).toNat : Int)); rw [UInt8.toNat_ofNat']; congr 2; omega
  | 1, _ => show some (Value.int .u8 ((n : Int) / 65536 % 256)) = some (.int .u8 ((UInt8.ofNat (n / 65536)).toNat : Int)); rw [UInt8.toNat_ofNat']; congr 2
  | 2, _ => show some (Value.int .u8 ((n : Int) / 256 % 256)) = some (.int .u8 ((UInt8.ofNat (n / 256)).toNat : Int)); rw [UInt8.toNat_ofNat']; congr 2
  | 3, _ => show some (Value.int .u8 ((n : Int) % 256)) = some (.int .u8 ((UInt8.ofNat n).toNat : Int)); rw [UInt8.toNat_ofNat']; congr 2

set_option maxHeartbeats 1000000 in
theorem four_any (n : Nat) (w : World) (h : n < 4294967296) :
    Calls Tryz.prog 105 #[.int .i64 (n : Int)] w fun e w' => e = .returned (.string ⟨(four n).toArray⟩) ∧ Below w.heap.size w w' := by
  have hcv := run_convert_bytes_back (P := Tryz.prog) _ 48 9 5 ⟨w.heap.size, 0, none⟩ 4 (four n) Tryz.underlying48 Tryz.underlying5 Tryz.underlying9 (four_cells n h w 5)
  rw [four_length] at hcv
  go_enter Tryz.func105, Tryz.ntmps105
  go_wp2
  go_ret
  exact ⟨rfl, (Below.refl _ _).alloc (Nat.le_refl _) _⟩

theorem ret_i64 {a b : Int} (h : a = b) : Ending.returned (.int .i64 a) = .returned (.int .i64 b) := by rw [h]

theorem or64 (x y : Nat) (hx : x < 4294967296) (hy : y < 4294967296) : bits .or .i64 (x : Int) (y : Int) = ((x ||| y : Nat) : Int) := by
  have h := Nat.or_lt_two_pow (n := 32) hx hy
  have e : (BitVec.ofInt 64 (x : Int) ||| BitVec.ofInt 64 (y : Int)).toNat = x ||| y := by
    rw [BitVec.toNat_or, ofInt_u64 x (by omega), ofInt_u64 y (by omega)]
  show IntKind.i64.wrap ((BitVec.ofInt 64 (x : Int) ||| BitVec.ofInt 64 (y : Int)).toNat : Int) = _
  rw [e, IntKind.wrap_i64]
  omega

theorem or_four (a b c d : UInt8) :
    bits .or .i64 (bits .or .i64 (bits .or .i64 (wrap64 (wrap64 (a.toNat : Int) * 16777216)) (wrap64 (wrap64 (b.toNat : Int) * 65536))) (wrap64 (wrap64 (c.toNat : Int) * 256))) (wrap64 (d.toNat : Int)) =
      ((a.toNat * 16777216 + b.toNat * 65536 + c.toNat * 256 + d.toNat : Nat) : Int) := by
  have ha := a.toNat_lt; have hb := b.toNat_lt; have hc := c.toNat_lt; have hd := d.toNat_lt
  have e1 : wrap64 (wrap64 (a.toNat : Int) * 16777216) = ((a.toNat * 16777216 : Nat) : Int) := by unfold wrap64; omega
  have e2 : wrap64 (wrap64 (b.toNat : Int) * 65536) = ((b.toNat * 65536 : Nat) : Int) := by unfold wrap64; omega
  have e3 : wrap64 (wrap64 (c.toNat : Int) * 256) = ((c.toNat * 256 : Nat) : Int) := by unfold wrap64; omega
  have e4 : wrap64 (d.toNat : Int) = (d.toNat : Int) := by unfold wrap64; omega
  rw [e1, e2, e3, e4, or64 _ _ (by omega) (by omega), nat_join 24 _ _ (by omega) (by omega), or64 _ _ (by omega) (by omega), nat_join 16 _ _ (by omega) (by omega), or64 _ _ (by omega) (by omega), nat_join 8 _ _ (by omega) (by omega)]

theorem byte_at (s : ByteArray) (k : Nat) (h : k < s.size) : s.data.toList.getD k 0 = s[k] := by
  have h' : k < s.data.toList.length := by rw [Lib.size_eq] at h; exact h
  rw [List.getD_eq_getElem?_getD, List.getElem?_eq_getElem h']; rfl

theorem num_at (s : ByteArray) (h : 4 ≤ s.size) : num s.data.toList = s[0].toNat * 16777216 + s[1].toNat * 65536 + s[2].toNat * 256 + s[3].toNat := by
  unfold num
  rw [byte_at s 0 (by omega), byte_at s 1 (by omega), byte_at s 2 (by omega), byte_at s 3 (by omega)]

set_option maxHeartbeats 1000000 in
theorem num_any (s : ByteArray) (w : World) (h0 : 4 ≤ s.size) :
    Calls Tryz.prog 102 #[.string s] w fun e w' => e = .returned (.int .i64 (num s.data.toList : Nat)) ∧ ∃ n, w' = w.drewN n := by
  have h1 : (0 : Int) < s.size := by omega
  have h2 : (1 : Int) < s.size := by omega
  have h3 : (2 : Int) < s.size := by omega
  have h4 : (3 : Int) < s.size := by omega
  have h1' : 0 < s.size := by omega
  have h2' : 1 < s.size := by omega
  have h3' : 2 < s.size := by omega
  have h4' : 3 < s.size := by omega
  go_enter Tryz.func102, Tryz.ntmps102
  go_wp2
  go_quiet (fail)
  go_wp2
  go_ret
  exact ⟨ret_i64 (or_four s[0] s[1] s[2] s[3] |>.trans (by rw [num_at s h0])), _, rfl⟩
end Go.Proofs.YtncpeaamfmfcgaaGreat
