/- DiskKeeps: what was synced is there behind every failure. -/
import Derived.Test.YtncpeaamfmfcgaaDiskOne
namespace Go.Proofs.Ytncpeaamfmfcgaa
open Go.RowKit

theorem kept_plain (x : ByteArray) (k : Nat) : (x.extract 0 k).extract 0 (x.extract 0 k).size = x.extract 0 k := by
  rw [ByteArray.extract_zero_size]
theorem empty_app (s : ByteArray) : ByteArray.empty ++ s = s := ByteArray.empty_append

set_option maxHeartbeats 4000000 in
set_option maxRecDepth 100000 in
theorem walk_keeps (w0 : World) (safe : ByteArray) (hsafe : safe.size ≤ maxLen) (more : ByteArray) (hmore : more.size ≤ maxLen) (keep : Int) (_hkeep : -9223372036854775808 ≤ keep ∧ keep ≤ 9223372036854775807) :
    Calls Try.prog 3 #[.string safe, .string more, .int .i64 keep] w0 fun e w' => e = .returned (.bool true) ∧ Below w0.heap.size w0 w' := by
  unfold maxLen at hsafe hmore
  have hsafe' : (safe.size : Int) ≤ 9223372036854775807 := by omega
  have hmore' : (more.size : Int) ≤ 9223372036854775807 := by omega
  by_cases h1 : (9000 : Int) < safe.size
  · have ht : decide ((9000 : Int) < safe.size) = true := decide_eq_true h1
    go_enter Try.func3, Try.ntmps3
    go_wp2_with fail
    refine (alive_any _).mono ?_
    rintro e w3 ⟨rfl, hb3⟩
    go_wp2
    go_ret
    exact ⟨rfl, hb3⟩
  have ht : decide ((9000 : Int) < safe.size) = false := decide_eq_false h1
  by_cases h2 : (9000 : Int) < more.size
  · have ht2 : decide ((9000 : Int) < more.size) = true := decide_eq_true h2
    go_enter Try.func3, Try.ntmps3
    go_wp2_with fail
    refine (alive_any _).mono ?_
    rintro e w3 ⟨rfl, hb3⟩
    go_wp2
    go_ret
    exact ⟨rfl, hb3⟩
  have ht2 : decide ((9000 : Int) < more.size) = false := decide_eq_false h2
  have hs9 : safe.size ≤ 9000 := by omega
  have hm9 : more.size ≤ 9000 := by omega
  have hva : validB ⟨#[102]⟩ = true := by decide
  have hK := keptAt_le [keep] 0 ⟨⟨#[102]⟩, safe ++ more, safe.size, 0⟩ (by show safe.size ≤ (safe ++ more).size; rw [ByteArray.size_append]; omega)
  change safe.size + _ ≤ (safe ++ more).size at hK
  obtain ⟨D, hD, hDl, hDu, hDe, hDn⟩ : ∃ D : ByteArray, (safe ++ more).extract 0 (safe.size + keptAt [keep] 0 ⟨⟨#[102]⟩, safe ++ more, safe.size, 0⟩) = D ∧ (safe.size : Int) ≤ D.size ∧ (D.size : Int) ≤ (safe.size : Int) + more.size ∧ (safe ++ more).extract 0 D.size = D ∧ safe.size + keptAt [keep] 0 ⟨⟨#[102]⟩, safe ++ more, safe.size, 0⟩ = D.size := by
    refine ⟨_, rfl, ?_, ?_, ?_, ?_⟩ <;> rw [ByteArray.size_append] at hK <;> (try rw [ByteArray.size_extract, ByteArray.size_append]) <;> (try congr 1) <;> omega
  have HD0 := Lib.hid hD
  have HDN := Lib.hid hDn
  have hD9 : D.size ≤ 18000 := by omega
  have hT1 : decide ((D.size : Int) < safe.size) = false := decide_eq_false (by omega)
  have hT2 : decide ((safe.size : Int) + more.size < D.size) = false := decide_eq_false (by omega)
  have hD2 : D.extract 0 (D.size + keptAt [7, 8] 0 ⟨⟨#[102]⟩, D, D.size, 0⟩) = D ∧ D.size + keptAt [7, 8] 0 ⟨⟨#[102]⟩, D, D.size, 0⟩ = D.size := by
    have : keptAt [7, 8] 0 ⟨⟨#[102]⟩, D, D.size, 0⟩ = 0 := by
      show ((7 : Int) % ((D.size : Int) - (D.size : Int) + 1)).toNat = 0
      rw [Int.sub_self]; rfl
    rw [this, Nat.add_zero, ByteArray.extract_zero_size]; exact ⟨rfl, rfl⟩
  have HDD := Lib.hid hD2
  clear hD hDn hK hD2
  go_enter Try.func3, Try.ntmps3
  go_wp2_with fail
  refine (new_ex _).mono ?_
  rintro e w1 ⟨d, m, hd, hm, rfl, hd1, hb1⟩
  have HD1 := Lib.hid hd1
  clear hd1
  go_wp2_with (first
    | (go_at_call 11; refine (one_create_any hva _ HD1.out).mono ?_; rintro e w2 ⟨rfl, hd2, ho2⟩; have HD2 := Lib.hid hd2; clear hd2)
    | (go_at_call 12; refine (one_append_any (by decide) (by decide) (by omega) (Nat.le_refl _) _ HD4.out).mono ?_; rintro e w5 ⟨rfl, hd5, ho5⟩; have HD5 := Lib.hid hd5; clear hd5)
    | (go_at_call 12; refine (one_append_any (by decide) (by decide) (by rw [ByteArray.size_empty]; omega) (by decide) _ HD2.out).mono ?_; rintro e w3 ⟨rfl, hd3, ho3⟩; rw [empty_app] at hd3; have HD3 := Lib.hid hd3; clear hd3)
    | (go_at_call 13; refine (one_sync_any (by decide) (by decide) (by omega) (Nat.zero_le _) _ HD3.out).mono ?_; rintro e w4 ⟨rfl, hd4, ho4⟩; have HD4 := Lib.hid hd4; clear hd4))
  refine (one_crash1_any keep _ (by decide) (by decide) (by rw [ByteArray.size_append]; omega) (by rw [ByteArray.size_append]; omega) _ HD5.out).mono ?_
  rintro e w6 ⟨rfl, hd6, ho6⟩
  rw [HD0.out, HDN.out] at hd6
  have HD6 := Lib.hid hd6
  clear hd6
  go_wp2_with fail
  refine (oneOff_read_any _ _ HD6.out).mono ?_
  rintro e w7 ⟨rfl, hb7⟩
  have HD7 := Lib.hid (HD6.out.later hb7)
  go_wp2_with fail
  refine (oneOff_restore_any _ HD7.out).mono ?_
  rintro e w8 ⟨rfl, hd8, ho8⟩
  have HD8 := Lib.hid hd8
  clear hd8
  go_wp2_with fail
  refine (one_read_any _ HD8.out).mono ?_
  rintro e w9 ⟨rfl, hb9⟩
  have HD9 := Lib.hid (HD8.out.later hb9)
  go_wp2_with fail
  refine (one_crash2_any 7 8 _ (by decide) (by decide) (by omega) (Nat.le_refl _) _ HD9.out).mono ?_
  rintro e w10 ⟨rfl, hd10, ho10⟩
  rw [HDD.out.1, HDD.out.2] at hd10
  have HD10 := Lib.hid hd10
  clear hd10
  go_wp2_with fail
  refine (oneOff_restore_any _ HD10.out).mono ?_
  rintro e w11 ⟨rfl, hd11, ho11⟩
  have HD11 := Lib.hid hd11
  clear hd11
  go_wp2_with fail
  refine (one_read_any _ HD11.out).mono ?_
  rintro e w12 ⟨rfl, hb12⟩
  go_wp2_with (first
    | (go_at_call 9; refine (alive_any _).mono ?_; rintro e w13 ⟨rfl, hb13⟩))
  go_ret
  have hO := ho2.trans (ho3.trans (ho4.trans (ho5.trans (ho6.trans ((Only.of_below hb7).trans (ho8.trans ((Only.of_below hb9).trans (ho10.trans ho11))))))))
  exact ⟨rfl, (hO.below hb1 hb1.size hd hm).trans ((below_step hb12 hb13).mono (Nat.le_trans hb1.size hO.size))⟩

end Go.Proofs.Ytncpeaamfmfcgaa
