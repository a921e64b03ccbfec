/- SumRows, walked: frames one behind the other are those of all; all of them are found, and so is the first part. -/
import Derived.Test.YthaeojbfjfhngaaSumLaws
namespace Go.Proofs.Ythaeojbfjfhngaa
open Go.RowKit Go.Proofs.Ythaeojbfjfhngaa.Sum

theorem raw_append (a b : List ByteArray) : raw (a ++ b) = raw a ++ raw b := by unfold raw; exact List.map_append
theorem scan_all (l : List ByteArray) (h : total l ≤ 60000) : scan (frames (raw l)) = (raw l, (frames (raw l)).length) := by
  have := scan_tail l [] h (by decide)
  rwa [List.append_nil] at this
theorem frames_two (a b : List ByteArray) : frames (raw a) ++ frames (raw b) = frames (raw (a ++ b)) := by rw [raw_append, frames_append]

set_option maxHeartbeats 2000000 in
theorem walk_rows (w0 : World) (l : List ByteArray) (v : Value) (hv : Strs w0 v l) (hl : l.length ≤ maxLen) (hs : ∀ s ∈ l, s.size ≤ maxLen) (m : List ByteArray) (u : Value) (hu : Strs w0 u m) (hm : m.length ≤ maxLen) (ht : ∀ s ∈ m, s.size ≤ maxLen) :
    Calls Try.prog 6 #[v, u] w0 fun e w' => e = .returned (.bool true) ∧ Below w0.heap.size w0 w' := by
  unfold maxLen at hl hs hm ht
  obtain ⟨av, capv, rfl, -⟩ := id hv.shape
  obtain ⟨au, capu, rfl, -⟩ := id hu.shape
  have HSH := Lib.hid (fun W hb => short4_any l _ W (hv.later hb) hl hs)
  have HSM := Lib.hid (fun W hb => short4_any m _ W (hu.later hb) hm ht)
  have HV := Lib.hid hv
  have HU := Lib.hid hu
  clear hs hv ht hu
  by_cases hS : shortB 100 6000 l = true
  case neg =>
    have HS' := Lib.hid (show shortB 100 6000 l = false by simpa using hS)
    clear hS
    go_enter Try.func6, Try.ntmps6
    go_wp2_with fail
    refine (HSH.out _ (Below.refl _ _)).mono ?_
    rintro e w1 ⟨rfl, hb1⟩
    rw [HS'.out]
    go_wp2_with fail
    refine (alive_any w1).mono ?_
    rintro e w2 ⟨rfl, hb2⟩
    go_wp2
    go_ret
    exact ⟨rfl, below_step hb1 hb2⟩
  case pos =>
    have HS' := Lib.hid hS
    have hsp := of_decide_eq_true hS
    clear hS
    by_cases hM : shortB 100 6000 m = true
    case neg =>
      have HM' := Lib.hid (show shortB 100 6000 m = false by simpa using hM)
      clear hM hsp
      go_enter Try.func6, Try.ntmps6
      go_wp2_with fail
      refine (HSH.out _ (Below.refl _ _)).mono ?_
      rintro e w1 ⟨rfl, hb1⟩
      rw [HS'.out]
      go_wp2_with fail
      refine (HSM.out _ hb1).mono ?_
      rintro e w2 ⟨rfl, hb2⟩
      rw [HM'.out]
      go_wp2_with fail
      refine (alive_any w2).mono ?_
      rintro e w3 ⟨rfl, hb3⟩
      go_wp2
      go_ret
      exact ⟨rfl, below_step (below_step hb1 hb2) hb3⟩
    case pos =>
      have HM' := Lib.hid hM
      have hmp := of_decide_eq_true hM
      clear hM
      have htl : total l ≤ 6000 := by omega
      have htm : total m ≤ 6000 := by omega
      have hll : l.length ≤ 100 := by omega
      have hml : m.length ≤ 100 := by omega
      have htot := total_append l m
      have HSA := Lib.hid (scan_all (l ++ m) (by omega))
      have HSL := Lib.hid (scan_all l (by omega))
      have HFF := Lib.hid (frames_two l m)
      have H32 : Hid (∀ s ∈ l, s.size < 4294967296) := fun s hs => by have := mem_total hs; omega
      have H32' : Hid (∀ s ∈ m, s.size < 4294967296) := fun s hs => by have := mem_total hs; omega
      have H32a : Hid (∀ s ∈ l ++ m, s.size < 4294967296) := fun s hs => by have := mem_total hs; omega
      have hX := total_length l
      have hY := total_length m
      have hXY := total_length (l ++ m)
      rw [List.length_append] at hXY
      have hA : (frames (raw l)).length ≤ 6800 := by omega
      have hB : (frames (raw m)).length ≤ 6800 := by omega
      have hAB : (frames (raw (l ++ m))).length ≤ 13600 := by omega
      have HLEN := Lib.hid (show (frames (raw (l ++ m))).length = (frames (raw l)).length + (frames (raw m)).length by rw [← frames_two, List.length_append])
      clear hsp hmp htot hX hY hXY htl htm
      go_enter Try.func6, Try.ntmps6
      go_wp2_with fail
      refine (HSH.out _ (Below.refl _ _)).mono ?_
      rintro e w1 ⟨rfl, hb1⟩
      rw [HS'.out]
      go_wp2_with fail
      refine (HSM.out _ hb1).mono ?_
      rintro e w2 ⟨rfl, hb2⟩
      rw [HM'.out]
      have HB2 := Lib.hid (below_step hb1 hb2)
      clear hb1 hb2
      go_wp2_with fail
      refine (frame_any l _ w2 (HV.out.later HB2.out) hl H32.out (by omega)).mono ?_
      rintro e w3 ⟨rfl, hb3⟩
      have HB3 := Lib.hid (below_step HB2.out hb3)
      go_wp2_with fail
      refine (frame_any m _ w3 (HU.out.later HB3.out) hm H32'.out (by omega)).mono ?_
      rintro e w4 ⟨rfl, hb4⟩
      have HB4 := Lib.hid (below_step HB3.out hb4)
      clear hb3 hb4
      generalize hXe : frames (raw l) = X at *
      generalize hYe : frames (raw m) = Y at *
      generalize hZe : frames (raw (l ++ m)) = Z at *
      have HXE := Lib.hid hXe
      have HYE := Lib.hid hYe
      have HZE := Lib.hid hZe
      clear hXe hYe hZe
      go_wp2_with fail
      refine (scan_of _ (raw (l ++ m)) Z.length w4 (by rw [ByteArray.size_append', mk_size, mk_size]; omega) (by rw [add_toList, HFF.out, HSA.out])).mono ?_
      rintro e w5 ⟨vx, rfl, hb5, l', hl', hx⟩
      obtain rfl := raw_inj hl'
      obtain ⟨ax, capx, rfl, -⟩ := id hx.shape
      have HX := Lib.hid hx
      have HB5 := Lib.hid (below_step HB4.out hb5)
      clear hl' hx hb5
      go_wp2_with fail
      refine (scan_of _ (raw l) X.length w5 (by rw [mk_size]; omega) (by rw [mk_toList, HSL.out])).mono ?_
      rintro e w6 ⟨vy, rfl, hb6, m', hm', hy⟩
      obtain rfl := raw_inj hm'
      obtain ⟨ay, capy, rfl, -⟩ := id hy.shape
      have HY := Lib.hid hy
      have HB6 := Lib.hid (below_step HB5.out hb6)
      have HX6 := Lib.hid (HX.out.later hb6)
      clear hm' hy hb6
      go_wp2_with fail
      refine (alive_any w6).mono ?_
      rintro e w7 ⟨rfl, hb7⟩
      have HB7 := Lib.hid (below_step HB6.out hb7)
      have HX7 := Lib.hid (HX6.out.later hb7)
      have HY7 := Lib.hid (HY.out.later hb7)
      clear hb7
      obtain ⟨u1, w8, hr1, ho1, hg1, -⟩ := run_append_texts w7 w7.heap.size 22 (.slice none 0 0) [] (World.ownsRow_nil _ _ _ _) _ m' (HV.out.later HB7.out) (by simp; omega) (Nat.le_refl _)
      have hb8 : Below w7.heap.size w7 w8 := (Below.refl _ _).grown hg1 (Nat.le_refl _) (by intro k hk; simp [Value.ownBlock] at hk)
      obtain ⟨u2, w9, hr2, ho2, hg2, hs2⟩ := run_append_texts w8 w7.heap.size 22 u1 ([] ++ m') ho1 _ m (HU.out.later (below_step HB7.out hb8)) (by simp; omega) hb8.size
      have hb9 : Below w7.heap.size w7 w9 := hb8.grown hg2 hb8.size (fun k hk => (ho1.lt k hk).1)
      have HB9 := Lib.hid (below_step HB7.out hb9)
      have HX9 := Lib.hid (HX7.out.later hb9)
      have HY9 := Lib.hid (HY7.out.later hb9)
      have HS9 := Lib.hid hs2
      clear ho1 hg1 hb8 ho2 hg2 hs2 hb9
      rw [List.nil_append] at HS9
      have HR1 := Lib.hid hr1
      have HR2 := Lib.hid hr2
      clear hr1 hr2
      go_wp2_with (first | (at_builtin; refine wpList_append_run rfl _ _ _ rfl _ _ _ _ rfl rfl HR1.out ?_) | (at_builtin; refine wpList_append_run rfl _ _ _ rfl _ _ _ _ rfl rfl HR2.out ?_))
      refine (frame_any (m' ++ m) u2 w9 HS9.out (by simp; omega) H32a.out (by rw [HZE.out]; omega)).mono ?_
      rintro e w10 ⟨rfl, hb10⟩
      rw [HZE.out]
      have HB10 := Lib.hid (below_step HB9.out hb10)
      have HX10 := Lib.hid (HX9.out.later hb10)
      have HY10 := Lib.hid (HY9.out.later hb10)
      clear hb10
      have g1 : (Z == ((⟨X.toArray⟩ : ByteArray) ++ ⟨Y.toArray⟩).toList) = true := by
        rw [ByteArray.toList_eq, add_toList, beq_iff_eq]; exact HFF.out.symm
      have g2 : ((Z.length : Int) == (X.length : Int) + (Y.length : Int)) = true := by rw [beq_iff_eq]; have := HLEN.out; omega
      have g3 : (((m' ++ m).length : Int) == (m'.length : Int) + (m.length : Int)) = true := by rw [beq_iff_eq, List.length_append]; omega
      have hsm : sameB m' m' = true := decide_eq_true rfl
      have g4 := HX10.out.cap
      have g5 : (0 : Int) ≤ (m'.length : Int) := by omega
      have g6 : (m'.length : Int) ≤ (capx : Int) := by rw [List.length_append] at g4; omega
      clear g4
      have HTK := Lib.hid (HX10.out.take m'.length (by rw [List.length_append]; omega))
      rw [List.take_left' rfl] at HTK
      go_wp2_with fail
      refine (same_any m' m' _ _ w10 HY10.out (HV.out.later HB10.out) (by omega)).mono ?_
      rintro e w11 ⟨rfl, n1, rfl⟩
      rw [hsm]
      go_wp2_with fail
      refine (same_any m' m' _ _ _ (HTK.out.later (below_draws w10 n1)) ((HV.out.later HB10.out).later (below_draws w10 n1)) (by omega)).mono ?_
      rintro e w12 ⟨rfl, n2, rfl⟩
      rw [hsm]
      go_wp2
      go_ret
      exact ⟨rfl, below_drawn HB10.out _⟩

end Go.Proofs.Ythaeojbfjfhngaa
