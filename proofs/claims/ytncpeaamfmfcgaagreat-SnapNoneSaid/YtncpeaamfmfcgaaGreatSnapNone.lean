/- SnapNone: of a nil and of a zero store; of no disk. -/
import Derived.Test.YtncpeaamfmfcgaaGreatSnapAlive
namespace Go.Proofs.YtncpeaamfmfcgaaGreat
open Go.RowKit Go.Proofs.YtncpeaamfmfcgaaGreat.Sum

set_option maxHeartbeats 1000000 in
theorem openStore_nil (dir : ByteArray) (w : World) : Calls Tryz.prog 27 #[.pointer none, .string dir] w fun e w' => e = .returned (.tuple #[.pointer none, .int .i64 1]) ∧ w = w' := by
  go_enter Tryz.func27, Tryz.ntmps27
  go_wp2
  go_ret2
  exact ⟨rfl, rfl⟩

set_option maxHeartbeats 1000000 in
theorem sbase_nil (w : World) : Calls Tryz.prog 28 #[.pointer none] w fun e w' => e = .returned (.tuple #[.string ⟨#[]⟩, .bool false]) ∧ w = w' := by
  go_enter Tryz.func28, Tryz.ntmps28
  go_wp2_with fail
  refine (snone_nil _).mono ?_
  rintro e w1 ⟨rfl, rfl⟩
  go_wp2
  go_ret2
  exact ⟨rfl, rfl⟩

set_option maxHeartbeats 1000000 in
theorem sbase_zero {t : Nat} {dv : Value} {dir base : ByteArray} {r : Nat} {br : Bool} (w : World) (h : StoreAt w t (.pointer none) dv dir r base br) : Calls Tryz.prog 28 #[.pointer (some ⟨t, 0, none⟩)] w fun e w' => e = .returned (.tuple #[.string ⟨#[]⟩, .bool false]) ∧ w = w' := by
  have HS := Lib.hid h
  clear h
  go_enter Tryz.func28, Tryz.ntmps28
  go_wp2_with fail
  refine (snone_zero _ HS.out).mono ?_
  rintro e w1 ⟨rfl, rfl⟩
  go_wp2
  go_ret2
  exact ⟨rfl, rfl⟩

set_option maxHeartbeats 1000000 in
theorem sround_nil (w : World) : Calls Tryz.prog 31 #[.pointer none] w fun e w' => e = .returned (.int .i64 0) ∧ w = w' := by
  go_enter Tryz.func31, Tryz.ntmps31
  go_wp2_with fail
  refine (snone_nil _).mono ?_
  rintro e w1 ⟨rfl, rfl⟩
  go_wp2
  go_ret
  exact ⟨rfl, rfl⟩

set_option maxHeartbeats 1000000 in
theorem sround_zero {t : Nat} {dv : Value} {dir base : ByteArray} {r : Nat} {br : Bool} (w : World) (h : StoreAt w t (.pointer none) dv dir r base br) : Calls Tryz.prog 31 #[.pointer (some ⟨t, 0, none⟩)] w fun e w' => e = .returned (.int .i64 0) ∧ w = w' := by
  have HS := Lib.hid h
  clear h
  go_enter Tryz.func31, Tryz.ntmps31
  go_wp2_with fail
  refine (snone_zero _ HS.out).mono ?_
  rintro e w1 ⟨rfl, rfl⟩
  go_wp2
  go_ret
  exact ⟨rfl, rfl⟩

set_option maxHeartbeats 1000000 in
theorem ssave_nil (s : ByteArray) (w : World) : Calls Tryz.prog 30 #[.pointer none, .string s] w fun e w' => e = .returned (.int .i64 1) ∧ w = w' := by
  go_enter Tryz.func30, Tryz.ntmps30
  go_wp2_with fail
  refine (snone_nil _).mono ?_
  rintro e w1 ⟨rfl, rfl⟩
  go_wp2
  go_ret
  exact ⟨rfl, rfl⟩

set_option maxHeartbeats 1000000 in
theorem ssave_zero {t : Nat} {dv : Value} {dir base : ByteArray} {r : Nat} {br : Bool} (s : ByteArray) (w : World) (h : StoreAt w t (.pointer none) dv dir r base br) : Calls Tryz.prog 30 #[.pointer (some ⟨t, 0, none⟩), .string s] w fun e w' => e = .returned (.int .i64 1) ∧ w = w' := by
  have HS := Lib.hid h
  clear h
  go_enter Tryz.func30, Tryz.ntmps30
  go_wp2_with fail
  refine (snone_zero _ HS.out).mono ?_
  rintro e w1 ⟨rfl, rfl⟩
  go_wp2
  go_ret
  exact ⟨rfl, rfl⟩

set_option maxHeartbeats 1000000 in
theorem scommit_nil (v : Value) (w : World) : Calls Tryz.prog 32 #[.pointer none, v] w fun e w' => e = .returned (.int .i64 1) ∧ w = w' := by
  go_enter Tryz.func32, Tryz.ntmps32
  go_wp2_with fail
  refine (snone_nil _).mono ?_
  rintro e w1 ⟨rfl, rfl⟩
  go_wp2
  go_ret
  exact ⟨rfl, rfl⟩

set_option maxHeartbeats 1000000 in
theorem scommit_zero {t : Nat} {dv : Value} {dir base : ByteArray} {r : Nat} {br : Bool} (v : Value) (w : World) (h : StoreAt w t (.pointer none) dv dir r base br) : Calls Tryz.prog 32 #[.pointer (some ⟨t, 0, none⟩), v] w fun e w' => e = .returned (.int .i64 1) ∧ w = w' := by
  have HS := Lib.hid h
  clear h
  go_enter Tryz.func32, Tryz.ntmps32
  go_wp2_with fail
  refine (snone_zero _ HS.out).mono ?_
  rintro e w1 ⟨rfl, rfl⟩
  go_wp2
  go_ret
  exact ⟨rfl, rfl⟩

set_option maxHeartbeats 2000000 in
set_option maxRecDepth 100000 in
theorem walk_snapNone (w0 : World) (dir : ByteArray) (_hdir : dir.size ≤ maxLen) (s : ByteArray) (_hs : s.size ≤ maxLen) (l : List ByteArray) (v : Value) (hv : Strs w0 v l) (_hl : l.length ≤ maxLen) (_hls : ∀ x ∈ l, x.size ≤ maxLen) :
    Calls Tryz.prog 8 #[.string dir, .string s, v] w0 fun e w' => e = .returned (.bool true) ∧ Below w0.heap.size w0 w' := by
  obtain ⟨a, cap, rfl, -⟩ := hv.shape
  have HS := Lib.hid (show StoreAt (w0.alloc (.cells #[.pointer none, .pointer none, .string ⟨#[]⟩, .int .i64 0, .string ⟨#[]⟩, .bool false] 57)) w0.heap.size (.pointer none) (.pointer none) ⟨#[]⟩ 0 ⟨#[]⟩ false from heap_alloc_new w0 _)
  have HB := Lib.hid (below_alloc (Below.refl _ w0) (.cells #[.pointer none, .pointer none, .string ⟨#[]⟩, .int .i64 0, .string ⟨#[]⟩, .bool false] 57))
  have hz1 : ((⟨#[]⟩ : ByteArray) ++ (⟨#[]⟩ : ByteArray)) = ⟨#[]⟩ := ByteArray.append_empty
  clear hv _hl _hls _hs _hdir
  go_enter Tryz.func8, Tryz.ntmps8
  go_wp2_with fail
  refine (openStore_nil dir _).mono ?_
  rintro e w1 ⟨rfl, rfl⟩
  go_wp2_with fail
  refine (sbase_nil _).mono ?_
  rintro e w1 ⟨rfl, rfl⟩
  go_wp2_with fail
  refine (sbase_zero _ HS.out).mono ?_
  rintro e w1 ⟨rfl, rfl⟩
  go_wp2_with fail
  refine (alive7_any _).mono ?_
  rintro e w1 ⟨rfl, hb1⟩
  have HS1 := Lib.hid (HS.out.later hb1)
  have HB1 := Lib.hid (below_step HB.out hb1)
  clear hb1
  go_wp2_with fail
  refine (ssave_nil s _).mono ?_
  rintro e w2 ⟨rfl, rfl⟩
  go_wp2_with fail
  refine (ssave_zero s _ HS1.out).mono ?_
  rintro e w2 ⟨rfl, rfl⟩
  go_wp2_with fail
  refine (sround_nil _).mono ?_
  rintro e w2 ⟨rfl, rfl⟩
  go_wp2_with fail
  refine (sround_zero _ HS1.out).mono ?_
  rintro e w2 ⟨rfl, rfl⟩
  by_cases h0 : l.length = 0
  · have t0 : ((l.length : Int) == 0) = true := by rw [h0]; rfl
    clear h0
    go_wp2
    go_ret
    exact ⟨rfl, HB1.out⟩
  · have t0 : ((l.length : Int) == 0) = false := by rw [beq_eq_false_iff_ne]; omega
    clear h0
    go_wp2_with fail
    refine (scommit_nil _ _).mono ?_
    rintro e w2 ⟨rfl, rfl⟩
    go_wp2_with fail
    refine (scommit_zero _ _ HS1.out).mono ?_
    rintro e w2 ⟨rfl, rfl⟩
    go_wp2
    go_ret
    exact ⟨rfl, HB1.out⟩

end Go.Proofs.YtncpeaamfmfcgaaGreat
