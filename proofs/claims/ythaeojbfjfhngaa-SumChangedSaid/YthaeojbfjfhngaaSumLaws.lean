/- The laws of package sum that need no reference: walked. -/
import Derived.Test.YthaeojbfjfhngaaSumAlive
import Derived.BigRegion
namespace Go.Proofs.Ythaeojbfjfhngaa
open Go.RowKit Go.Proofs.Ythaeojbfjfhngaa.Sum

theorem total_length (l : List ByteArray) : (frames (raw l)).length = total l + 8 * l.length := by
  induction l with
  | nil => rfl
  | cons s l ih =>
    show (frame s.data.toList ++ frames (raw l)).length = _
    rw [List.length_append, ih, frame_length, ← Lib.size_eq]; simp only [total, List.length_cons]; omega
theorem mem_total {l : List ByteArray} {s : ByteArray} (h : s ∈ l) : s.size ≤ total l := by
  induction l with
  | nil => cases h
  | cons t l ih =>
    rcases List.mem_cons.1 h with rfl | h
    · simp only [total]; omega
    · have := ih h; simp only [total]; omega

set_option maxHeartbeats 1000000 in
theorem short4_any (l : List ByteArray) (v : Value) (w : World) (hv : Strs w v l) (hl : l.length ≤ 9223372036854775807) (hs : ∀ s ∈ l, s.size ≤ 9223372036854775807) :
    Calls Try.prog 7 #[v] w fun e w' => e = .returned (.bool (shortB 100 6000 l)) ∧ Below w.heap.size w w' := by
  go_enter Try.func7, Try.ntmps7
  go_wp2_with fail
  refine (short_any 100 6000 l v w hv hl (by decide) (by decide) hs).mono ?_
  rintro e w1 ⟨rfl, hb⟩
  go_wp2
  go_ret
  exact ⟨rfl, hb⟩

/-- What SumBack's call finds, in plain words. -/
theorem raw_length (l : List ByteArray) : (raw l).length = l.length := by unfold raw; rw [List.length_map]
theorem raw_short {l : List ByteArray} {n : Nat} (h : total l ≤ n) : ∀ s ∈ raw l, s.length ≤ n := by
  intro s hs
  obtain ⟨t, ht, rfl⟩ := List.mem_map.1 hs
  have := mem_total ht
  rw [← Lib.size_eq]; omega

theorem scan_tail (l : List ByteArray) (r : List UInt8) (h : total l ≤ 60000) (hr : r.length < 8) : scan (frames (raw l) ++ r) = (raw l, (frames (raw l)).length) := by
  rw [scan_frames _ _ (raw_short h), scan_short r hr]; simp

theorem mk_toList (l : List UInt8) : (⟨l.toArray⟩ : ByteArray).data.toList = l := by simp

theorem add_toList (l m : List UInt8) : ((⟨l.toArray⟩ : ByteArray) ++ ⟨m.toArray⟩).data.toList = l ++ m := by rw [ByteArray.mk_append_mk]

/-- The pieces of a text that are cut off at its front. -/
theorem cut_toList (l : List UInt8) (c : Nat) : ((⟨l.toArray⟩ : ByteArray).extract 0 c).data.toList = l.take c := by
  rw [Lib.extract_data]; simp
theorem mk_size (l : List UInt8) : (⟨l.toArray⟩ : ByteArray).size = l.length := by rw [ByteArray.size_mk', List.size_toArray]

theorem cut_found {l : List ByteArray} {c : Nat} (h : total l ≤ 60000) (hc : c ≤ (frames (raw l)).length) {y : List ByteArray} (hy : raw y = (scan ((frames (raw l)).take c)).1) :
    y.length ≤ l.length ∧ y = l.take y.length ∧ (frames (raw y)) = (frames (raw l)).take (scan ((frames (raw l)).take c)).2 ∧ (scan ((frames (raw l)).take c)).2 ≤ c := by
  obtain ⟨k, hk, h1⟩ := scan_cut (raw l) (raw_short h) c hc
  obtain ⟨s1, s2, s3, s4⟩ := scan_spec ((frames (raw l)).take c)
  rw [List.length_take] at s2
  rw [raw_length] at hk
  have e : y = l.take k := raw_inj (by rw [hy, h1]; unfold raw; rw [List.map_take])
  have hl : y.length = k := by rw [e, List.length_take]; omega
  refine ⟨by omega, by rw [hl]; exact e, ?_, by omega⟩
  rw [hy, s1, List.take_take]
  congr 1; omega

theorem ret_bool {a b : Bool} (h : a = b) : Ending.returned (.bool a) = .returned (.bool b) := by rw [h]

set_option maxHeartbeats 1000000 in
theorem walk_back (w0 : World) (l : List ByteArray) (v : Value) (hv : Strs w0 v l) (hl : l.length ≤ maxLen) (hs : ∀ s ∈ l, s.size ≤ maxLen) (cut : Int) (hcut : -9223372036854775808 ≤ cut ∧ cut ≤ 9223372036854775807) :
    Calls Try.prog 3 #[v, .int .i64 cut] w0 fun e w' => e = .returned (.bool true) ∧ Below w0.heap.size w0 w' := by
  unfold maxLen at hl hs
  obtain ⟨av, capv, rfl, -⟩ := id hv.shape
  have hsh := fun W hb => short4_any l _ W (hv.later hb) hl hs
  have HV := Lib.hid hv
  have HS := Lib.hid hs
  have HSH := Lib.hid hsh
  clear hsh hs hv
  by_cases hS : shortB 100 6000 l = true
  case neg =>
    have hS' : shortB 100 6000 l = false := by simpa using hS
    have HS' := Lib.hid hS'
    clear hS hS'
    go_enter Try.func3, Try.ntmps3
    go_wp2_with fail
    refine (HSH.out _ (Below.refl _ _)).mono ?_
    rintro e w1 ⟨rfl, hb1⟩
    rw [HS'.out]
    go_wp2_with fail
    refine (alive_any w1).mono ?_
    rintro e w2 ⟨rfl, hb2⟩
    go_wp2
    go_ret
    exact ⟨rfl, below_step hb1 hb2⟩
  case pos =>
    by_cases hc0 : cut < 0
    · have HS' := Lib.hid hS
      clear hS
      go_enter Try.func3, Try.ntmps3
      go_wp2_with fail
      refine (HSH.out _ (Below.refl _ _)).mono ?_
      rintro e w1 ⟨rfl, hb1⟩
      rw [HS'.out]
      go_wp2_with fail
      refine (alive_any w1).mono ?_
      rintro e w2 ⟨rfl, hb2⟩
      go_wp2
      go_ret
      exact ⟨rfl, below_step hb1 hb2⟩
    · obtain ⟨c, rfl⟩ := Int.eq_ofNat_of_zero_le (Int.not_lt.1 hc0)
      have hsp := of_decide_eq_true hS
      have htot : total l ≤ 6000 := by omega
      have hln : l.length ≤ 100 := by omega
      have hfl := total_length l
      have HS' := Lib.hid hS
      clear hS hsp
      have HT := Lib.hid (scan_tail l [49, 50, 51, 52, 53, 54, 55] (by omega) (by decide))
      have HTS := Lib.hid (fun (y : List ByteArray) (hc : c ≤ _) (hy : raw y = _) => cut_found (l := l) (c := c) (by omega) hc hy)
      have hsz32 : ∀ s ∈ l, s.size < 4294967296 := fun s hs => by have := mem_total hs; omega
      have H32 := Lib.hid hsz32
      clear hsz32
      obtain ⟨F, hF⟩ : ∃ F, F = frames (raw l) := ⟨_, rfl⟩
      have hFl : F.length ≤ 6800 := by rw [hF]; omega
      have HF := Lib.hid hF
      clear hfl hF
      have hsm : sameB l l = true := decide_eq_true rfl
      go_enter Try.func3, Try.ntmps3
      go_wp2_with fail
      refine (HSH.out _ (Below.refl _ _)).mono ?_
      rintro e w1 ⟨rfl, hb1⟩
      rw [HS'.out]
      go_wp2_with fail
      refine (frame_any l _ w1 (HV.out.later hb1) hl H32.out (by rw [← HF.out]; omega)).mono ?_
      rintro e w2 ⟨rfl, hb2⟩
      rw [← HF.out]
      go_wp2_with fail
      refine (scan_of _ (raw l) F.length w2 (by rw [ByteArray.size_append', mk_size]; show F.length + 7 ≤ _; omega) (by rw [HF.out, ← HT.out]; exact congrArg scan (add_toList _ _))).mono ?_
      rintro e w3 ⟨vx, rfl, hb3, l', hl', hx⟩
      obtain rfl := raw_inj hl'
      obtain ⟨ax, capx, rfl, -⟩ := id hx.shape
      have HX := Lib.hid hx
      clear hl' hx
      go_wp2_with fail
      refine (same_any l' l' _ _ w3 HX.out (HV.out.later (below_step (below_step hb1 hb2) hb3)) hl).mono ?_
      rintro e w4 ⟨rfl, n4, rfl⟩
      rw [hsm]
      have hb4 : Below w0.heap.size w0 (w3.drewN n4) := below_drawn (below_step (below_step hb1 hb2) hb3) _
      have HB4 := Lib.hid hb4
      clear hb1 hb2 hb3 hb4
      by_cases hcF : F.length ≤ c
      · go_wp2_with fail
        refine (alive_any _).mono ?_
        rintro e w5 ⟨rfl, hb5⟩
        go_wp2
        go_ret
        exact ⟨rfl, below_step HB4.out hb5⟩
      · go_wp2_with fail
        refine (scan_of _ (scan (F.take c)).1 (scan (F.take c)).2 _ (by rw [ByteArray.size_extract, mk_size]; omega) (by rw [cut_toList])).mono ?_
        rintro e w5 ⟨vy, rfl, hb5, y, hy, hvy⟩
        obtain ⟨ht1, ht2, ht3, ht4⟩ := HTS.out y (by rw [← HF.out]; omega) (by rw [← HF.out]; exact hy)
        rw [← HF.out] at ht3 ht4
        generalize (scan (F.take c)).2 = m at *
        obtain ⟨ay, capy, rfl, -⟩ := id hvy.shape
        have HY := Lib.hid hvy
        have HB5 := Lib.hid (below_step HB4.out hb5)
        have hvl := HV.out.later HB5.out
        have HVL := Lib.hid (hvl.take y.length ht1)
        have HEQ := Lib.hid (show sameB y (l'.take y.length) = true from decide_eq_true ht2)
        have HFR := Lib.hid ht3
        have H32y : Hid (∀ s ∈ y, s.size < 4294967296) := fun s hs => H32.out s (by rw [ht2] at hs; exact List.mem_of_mem_take hs)
        have hyl : y.length ≤ 9223372036854775807 := by omega
        have hmc : m ≤ F.length := by omega
        have hfy : (frames (raw y)).length ≤ 140737488355328 := by rw [ht3, List.length_take]; omega
        clear ht2 ht3 hvy hvl hb5 hy
        have g1 : decide ((m : Int) ≤ (c : Int)) = true := by simp; omega
        have g2 : decide ((y.length : Int) ≤ (l'.length : Int)) = true := by simp; omega
        have g3 : (0 : Int) ≤ (y.length : Int) := by omega
        have g4 : (y.length : Int) ≤ (capv : Int) := by have := HV.out.cap; omega
        have g5 : (0 : Int) ≤ (m : Int) := by omega
        have g6 : (m : Int) ≤ (F.length : Int) := by omega
        go_wp2_with fail
        go_region_held3 (fun w' => Below w5.heap.size w5 w') (first | assumption | exact below_drawn (Below.refl _ _) 1 | exact below_drawn (by assumption) _ | exact below_step (by assumption) (by assumption)) (first
          | (go_at_call 8; refine (alive_any _).mono ?_; rintro e w6 ⟨rfl, hb6⟩)
          | (go_at_call 11; refine (same_any y (l'.take y.length) _ _ _ (HY.out.later (by assumption)) (HVL.out.later (by assumption)) hyl).mono ?_; rintro e w6 ⟨rfl, n6, rfl⟩; rw [HEQ.out])
          | (go_at_call 9; refine (frame_any y _ _ (HY.out.later (by assumption)) hyl H32y.out hfy).mono ?_; rintro e w6 ⟨rfl, hb6⟩; rw [HFR.out]))
        have hfin : (F.take m == ((⟨F.toArray⟩ : ByteArray).extract 0 m).toList) = true := by rw [ByteArray.toList_eq, cut_toList, beq_iff_eq]
        go_wp2
        go_ret
        exact ⟨ret_bool hfin, below_step HB5.out (by assumption)⟩

end Go.Proofs.Ythaeojbfjfhngaa
