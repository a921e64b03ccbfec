/- SumPieces, walked: in whatever pieces a text is handed in, its sum is the same. -/
import Derived.Test.YthaeojbfjfhngaaSumLaws
namespace Go.Proofs.Ythaeojbfjfhngaa
open Go.RowKit Go.Proofs.Ythaeojbfjfhngaa.Sum

theorem crcOf_flat (l : List ByteArray) : ∀ x, crcOf x l = crcRun x (raw l).flatten := by
  induction l with
  | nil => intro x; rfl
  | cons s l ih =>
    intro x
    show crcOf (crcRun x s.data.toList) l = _
    rw [ih]
    show _ = crcRun x (s.data.toList ++ (raw l).flatten)
    rw [crcRun_append]
theorem crcOf_sum (l : List ByteArray) : ((4294967295 - crcOf 4294967295 l : Nat) : Int) = (crc (raw l).flatten : Nat) := by
  rw [crcOf_flat]; unfold crc; rfl
theorem flat_length (l : List ByteArray) : (raw l).flatten.length = total l := by
  induction l with
  | nil => rfl
  | cons s l ih => rw [raw, List.map_cons, List.flatten_cons, List.length_append]; show _ + (raw l).flatten.length = _; rw [ih, ← Lib.size_eq]; rfl
theorem flat_take (l : List ByteArray) (k : Nat) (h : k < l.length) : (raw (l.take (k + 1))).flatten = (raw (l.take k)).flatten ++ l[k].data.toList := by
  rw [raw_take l k h, List.flatten_append]; simp
theorem mk_append (l : List UInt8) (s : ByteArray) : ((⟨l.toArray⟩ : ByteArray) ++ s) = ⟨(l ++ s.data.toList).toArray⟩ := by
  have hs : s = ⟨s.data.toList.toArray⟩ := by rw [Array.toArray_toList]
  conv => lhs; rw [hs]
  rw [ByteArray.mk_append_mk]
theorem ret_text {a b : ByteArray} (h : a = b) : Ending.returned (.string a) = .returned (.string b) := by rw [h]

set_option maxHeartbeats 1000000 in
theorem joined_any (l : List ByteArray) (v : Value) (w : World) (hv : Strs w v l) (ht : total l ≤ 1000000000) (hl : l.length ≤ 9223372036854775807) :
    Calls Try.prog 12 #[v] w fun e w' => e = .returned (.string ⟨(raw l).flatten.toArray⟩) ∧ w' = w := by
  obtain ⟨a, cap, rfl, hc⟩ := hv.shape
  have HC := Lib.hid hc
  clear hc hv
  go_enter Try.func12, Try.ntmps12
  go_wp2
  go_loop [3, 4] (fun x i => ∃ k : Nat, k ≤ l.length ∧ i = .int .i64 k ∧ x = .string ⟨(raw (l.take k)).flatten.toArray⟩) (fun _ i => l.length - (intOf i).toNat)
  case atStart => exact ⟨0, Nat.zero_le _, rfl, rfl⟩
  case round =>
    obtain ⟨k, hk, rfl, rfl⟩ := hrel
    have hA := flat_length (l.take k)
    have hA2 := total_take_le l k
    have hAl : (raw (l.take k)).flatten.length ≤ 1000000000 := by omega
    clear hA hA2
    by_cases hlt : k < l.length
    · obtain ⟨b, off, rfl, _, hcell⟩ := HC.out k hlt
      have hm := mem_total (List.getElem_mem hlt)
      have hs2 : l[k].size ≤ 1000000000 := by omega
      have HT := Lib.hid (flat_take l k hlt)
      clear hm
      generalize l[k] = s at *
      generalize (raw (l.take k)).flatten = A at *
      go_wp2
      go_round
      case rel => exact ⟨k + 1, by omega, by go_num, by rw [HT.out, mk_append]⟩
      case measure => simp [intOf]; omega
    · obtain rfl : k = l.length := by omega
      rw [List.take_length]
      go_wp2
      go_ret
      exact ⟨rfl, rfl⟩

theorem raw_two (a b : ByteArray) : (raw [a, b]).flatten = a.data.toList ++ b.data.toList := by simp [raw]
theorem two_pieces (J : List UInt8) (k : Nat) : ((⟨J.toArray⟩ : ByteArray).extract 0 k).data.toList ++ ((⟨J.toArray⟩ : ByteArray).extract k J.length).data.toList = J := by
  have h := extract_from (⟨J.toArray⟩ : ByteArray) k
  rw [mk_size] at h
  rw [cut_toList, h]; simp
theorem no_bytes {a : ByteArray} (h : a.size ≤ 0) : a.data.toList = [] := List.eq_nil_of_length_eq_zero (by rw [← Lib.size_eq]; omega)

set_option maxHeartbeats 1000000 in
theorem walk_pieces (w0 : World) (l : List ByteArray) (v : Value) (hv : Strs w0 v l) (hl : l.length ≤ maxLen) (hs : ∀ s ∈ l, s.size ≤ maxLen) (cut : Int) (_hcut : -9223372036854775808 ≤ cut ∧ cut ≤ 9223372036854775807) :
    Calls Try.prog 5 #[v, .int .i64 cut] w0 fun e w' => e = .returned (.bool true) ∧ Below w0.heap.size w0 w' := by
  unfold maxLen at hl hs
  obtain ⟨av, capv, rfl, -⟩ := id hv.shape
  have hsh := fun W hb => short4_any l _ W (hv.later hb) hl hs
  have HV := Lib.hid hv
  have HSH := Lib.hid hsh
  clear hsh hs hv
  by_cases hS : shortB 100 6000 l = true
  case neg =>
    have hS' : shortB 100 6000 l = false := by simpa using hS
    have HS' := Lib.hid hS'
    clear hS hS'
    go_enter Try.func5, Try.ntmps5
    go_wp2_with fail
    refine (HSH.out _ (Below.refl _ _)).mono ?_
    rintro e w1 ⟨rfl, hb1⟩
    rw [HS'.out]
    go_wp2_with fail
    refine (alive_any w1).mono ?_
    rintro e w2 ⟨rfl, hb2⟩
    go_wp2
    go_ret
    exact ⟨rfl, below_step hb1 hb2⟩
  case pos =>
    have hsp := of_decide_eq_true hS
    have htot : total l ≤ 6000 := by omega
    have hln : l.length ≤ 100 := by omega
    have hsz : ∀ s ∈ l, s.size ≤ 9223372036854775807 := fun s hs => by have := mem_total hs; omega
    have HSZ := Lib.hid hsz
    have HS' := Lib.hid hS
    have HL := Lib.hid (crcOf_sum l)
    have HO := Lib.hid (crcOf_one ⟨(raw l).flatten.toArray⟩)
    have hJl := flat_length l
    have hJ : (raw l).flatten.length ≤ 6000 := by omega
    clear hS hsp hsz hJl
    generalize hJe : (raw l).flatten = J at *
    have HJE := Lib.hid hJe
    have hC := crc_lt J
    have HP : Hid (∀ a b : ByteArray, a.data.toList ++ b.data.toList = J → ((4294967295 - crcOf 4294967295 [a, b] : Nat) : Int) = (crc J : Nat)) := fun a b h => by rw [crcOf_sum, raw_two, h]
    have HC1 : Hid (((4294967295 - crcOf 4294967295 [(⟨J.toArray⟩ : ByteArray)] : Nat) : Int) = (crc J : Nat)) := by have := HO.out; rwa [mk_toList] at this
    clear HO hJe
    generalize crc J = C at *
    go_enter Try.func5, Try.ntmps5
    go_wp2_with fail
    refine (HSH.out _ (Below.refl _ _)).mono ?_
    rintro e w1 ⟨rfl, hb1⟩
    rw [HS'.out]
    go_wp2_with fail
    refine (joined_any l _ w1 (HV.out.later hb1) (by omega) hl).mono ?_
    rintro e w2 ⟨rfl, rfl⟩
    rw [HJE.out]
    by_cases hJ0 : 0 < J.length
    · have hd : (J.length : Int) ≠ 0 := by omega
      have hlo := Int.lt_tmod_of_pos cut (show (0 : Int) < J.length by omega)
      have hhi := Int.tmod_lt_of_pos cut (show (0 : Int) < J.length by omega)
      by_cases hneg : cut.tmod J.length < 0
      · obtain ⟨k, hk⟩ := Int.eq_ofNat_of_zero_le (show 0 ≤ cut.tmod J.length + J.length by omega)
        have hkl : k ≤ J.length := by omega
        have HK := Lib.hid hk
        clear hk
        go_wp2_with fail
        rw [HK.out]
        clear hlo hhi hneg HK hd
        have hb3 : Below w0.heap.size w0 w2 := hb1
        have HB3 := Lib.hid hb3
        refine (crc_any [⟨J.toArray⟩] _ _ (strs_one w2 _ _) (by simp) (by intro s hs; simp at hs; subst hs; rw [mk_size]; omega)).mono ?_
        rintro e w3 ⟨rfl, rfl⟩
        rw [HC1.out]
        have g1 : (0 : Int) ≤ (C : Int) := by omega
        have g2 : (C : Int) < 4294967296 := by omega
        have g3 : decide ((0 : Int) ≤ (C : Int)) = true := by simp
        have g4 : decide ((C : Int) < 4294967296) = true := by simp; omega
        clear hb1 hb3
        go_wp2_with fail
        go_region_held3 (fun w' => Below w0.heap.size w0 w') (first | assumption | exact below_drawn (below_alloc HB3.out _) 1 | exact below_alloc (by assumption) _ | exact below_drawn (by assumption) _ | exact below_step (by assumption) (by assumption)) (first
          | (go_at_call 8; refine (alive_any _).mono ?_; rintro e w6 ⟨rfl, hb6⟩)
          | (go_at_call 13; refine (crc_any _ _ _ (by first | exact HV.out.later (by assumption) | exact Strs.nil _ | exact strs_at _ [_, _] _ _ (by simp)) (by first | exact hl | simp) (by first | exact HSZ.out | (intro s hs; simp at hs; done) | (intro s hs; simp at hs; rcases hs with rfl | rfl <;> (rw [ByteArray.size_extract, mk_size]; omega)))).mono ?_; rintro e w6 ⟨rfl, rfl⟩; first | rw [HL.out] | rw [HP.out _ _ (two_pieces J _)] | skip))
        go_wp2
        go_ret
        exact ⟨ret_bool rfl, by assumption⟩
      · obtain ⟨k, hk⟩ := Int.eq_ofNat_of_zero_le (Int.not_lt.1 hneg)
        have hkl : k ≤ J.length := by omega
        have HK := Lib.hid hk
        clear hk
        go_wp2_with fail
        rw [HK.out]
        clear hlo hhi hneg HK hd
        have hb3 : Below w0.heap.size w0 w2 := hb1
        have HB3 := Lib.hid hb3
        refine (crc_any [⟨J.toArray⟩] _ _ (strs_one w2 _ _) (by simp) (by intro s hs; simp at hs; subst hs; rw [mk_size]; omega)).mono ?_
        rintro e w3 ⟨rfl, rfl⟩
        rw [HC1.out]
        have g1 : (0 : Int) ≤ (C : Int) := by omega
        have g2 : (C : Int) < 4294967296 := by omega
        have g3 : decide ((0 : Int) ≤ (C : Int)) = true := by simp
        have g4 : decide ((C : Int) < 4294967296) = true := by simp; omega
        clear hb1 hb3
        go_wp2_with fail
        go_region_held3 (fun w' => Below w0.heap.size w0 w') (first | assumption | exact below_drawn (below_alloc HB3.out _) 1 | exact below_alloc (by assumption) _ | exact below_drawn (by assumption) _ | exact below_step (by assumption) (by assumption)) (first
          | (go_at_call 8; refine (alive_any _).mono ?_; rintro e w6 ⟨rfl, hb6⟩)
          | (go_at_call 13; refine (crc_any _ _ _ (by first | exact HV.out.later (by assumption) | exact Strs.nil _ | exact strs_at _ [_, _] _ _ (by simp)) (by first | exact hl | simp) (by first | exact HSZ.out | (intro s hs; simp at hs; done) | (intro s hs; simp at hs; rcases hs with rfl | rfl <;> (rw [ByteArray.size_extract, mk_size]; omega)))).mono ?_; rintro e w6 ⟨rfl, rfl⟩; first | rw [HL.out] | rw [HP.out _ _ (two_pieces J _)] | skip))
        go_wp2
        go_ret
        exact ⟨ret_bool rfl, by assumption⟩
    · have hJn : J = [] := List.eq_nil_of_length_eq_zero (by omega)
      have HJN := Lib.hid hJn
      clear hJn
      go_wp2_with fail
      have hb3 : Below w0.heap.size w0 w2 := hb1
      have HB3 := Lib.hid hb3
      refine (crc_any [⟨J.toArray⟩] _ _ (strs_one w2 _ _) (by simp) (by intro s hs; simp at hs; subst hs; rw [mk_size]; omega)).mono ?_
      rintro e w3 ⟨rfl, rfl⟩
      rw [HC1.out]
      have g1 : (0 : Int) ≤ (C : Int) := by omega
      have g2 : (C : Int) < 4294967296 := by omega
      have g3 : decide ((0 : Int) ≤ (C : Int)) = true := by simp
      have g4 : decide ((C : Int) < 4294967296) = true := by simp; omega
      clear hb1 hb3
      go_wp2_with fail
      go_region_held3 (fun w' => Below w0.heap.size w0 w') (first | assumption | exact below_drawn (below_alloc HB3.out _) 1 | exact below_alloc (by assumption) _ | exact below_drawn (by assumption) _ | exact below_step (by assumption) (by assumption)) (first
        | (go_at_call 8; refine (alive_any _).mono ?_; rintro e w6 ⟨rfl, hb6⟩)
        | (go_at_call 13; refine (crc_any _ _ _ (by first | exact HV.out.later (by assumption) | exact Strs.nil _ | exact strs_at _ [_, _] _ _ (by simp)) (by first | exact hl | simp) (by first | exact HSZ.out | (intro s hs; simp at hs; done) | (intro s hs; simp at hs; first | (subst hs; simp; done) | (rcases hs with rfl | rfl <;> first | (rw [ByteArray.size_extract, mk_size]; omega) | (simp; done))))).mono ?_; rintro e w6 ⟨rfl, rfl⟩; first | rw [HL.out] | rw [HP.out _ _ (by simp [HJN.out])] | skip))
      go_wp2
      go_ret
      exact ⟨ret_bool rfl, by assumption⟩

end Go.Proofs.Ythaeojbfjfhngaa
