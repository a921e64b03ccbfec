/- WalBroken: once the power failed nothing is committed any more, and what was stays. -/
import Derived.Test.YtncpeaamfmfcgaaGreatWalShort
namespace Go.Proofs.YtncpeaamfmfcgaaGreat
open Go.RowKit Go.Proofs.YtncpeaamfmfcgaaGreat.Sum

theorem sameB_refl (l : List ByteArray) : sameB l l = true := decide_eq_true rfl

set_option maxHeartbeats 8000000 in
set_option maxRecDepth 100000 in
theorem walk_walBroken (w0 : World) (l1 : List ByteArray) (v1 : Value) (hv1 : Strs w0 v1 l1) (hl1 : l1.length ≤ maxLen) (hs1 : ∀ s ∈ l1, s.size ≤ maxLen) (l2 : List ByteArray) (v2 : Value) (hv2 : Strs w0 v2 l2) (hl2 : l2.length ≤ maxLen) (hs2 : ∀ s ∈ l2, s.size ≤ maxLen) (n : Int) (hn : -9223372036854775808 ≤ n ∧ n ≤ 9223372036854775807) :
    Calls Tryz.prog 7 #[v1, v2, .int .i64 n] w0 fun e w' => e = .returned (.bool true) ∧ Below w0.heap.size w0 w' := by
  unfold maxLen at hl1 hs1 hl2 hs2
  have HV1 := Lib.hid hv1
  have HV2 := Lib.hid hv2
  have HS1 := Lib.hid hs1
  have HS2 := Lib.hid hs2
  have HN := Lib.hid hn
  obtain ⟨a1, cap1, rfl, -⟩ := hv1.shape
  obtain ⟨a2, cap2, rfl, -⟩ := hv2.shape
  clear hv1 hv2 hs1 hs2 hn
  by_cases g : 10 < l1.length ∨ 10 < l2.length ∨ l2.length = 0 ∨ n < 0 ∨ 1 < n
  · have key : decide ((10 : Int) < l1.length) = true ∨ (decide ((10 : Int) < l1.length) = false ∧ decide ((10 : Int) < l2.length) = true) ∨ (decide ((10 : Int) < l1.length) = false ∧ decide ((10 : Int) < l2.length) = false ∧ ((l2.length : Int) == 0) = true) ∨
        (decide ((10 : Int) < l1.length) = false ∧ decide ((10 : Int) < l2.length) = false ∧ ((l2.length : Int) == 0) = false ∧ decide (n < 0) = true) ∨ (decide ((10 : Int) < l1.length) = false ∧ decide ((10 : Int) < l2.length) = false ∧ ((l2.length : Int) == 0) = false ∧ decide (n < 0) = false ∧ decide (1 < n) = true) := by
      simp only [decide_eq_true_eq, decide_eq_false_iff_not, beq_iff_eq, beq_eq_false_iff_ne]
      omega
    clear g
    rcases key with t1 | ⟨t1, t2⟩ | ⟨t1, t2, t3⟩ | ⟨t1, t2, t3, t4⟩ | ⟨t1, t2, t3, t4, t5⟩
    all_goals
      go_enter Tryz.func7, Tryz.ntmps7
      go_wp2_with fail
      refine (alive6_any _).mono ?_
      rintro e w1 ⟨rfl, hb1⟩
      go_wp2
      go_ret
      exact ⟨rfl, hb1⟩
  · have t1 : decide ((10 : Int) < l1.length) = false := decide_eq_false (by omega)
    have t2 : decide ((10 : Int) < l2.length) = false := decide_eq_false (by omega)
    have t3 : ((l2.length : Int) == 0) = false := by rw [beq_eq_false_iff_ne]; omega
    have t4 : decide (n < 0) = false := decide_eq_false (by omega)
    have t5 : decide (1 < n) = false := decide_eq_false (by omega)
    have HNE := Lib.hid (show l2 ≠ [] by intro q; rw [q] at g; simp at g)
    have HNN := Lib.hid (show 0 ≤ n ∧ n ≤ 1 by omega)
    clear g
    go_enter Tryz.func7, Tryz.ntmps7
    go_wp2_with fail
    refine (short_any 10 3000 l1 _ _ HV1.out hl1 (by decide) (by decide) HS1.out).mono ?_
    rintro e w1 ⟨rfl, hb1⟩
    have HB1 := Lib.hid hb1
    clear hb1
    cases h1 : shortB 10 3000 l1
    · clear h1
      go_wp2_with fail
      refine (alive6_any _).mono ?_
      rintro e w2 ⟨rfl, hb2⟩
      have HB2 := Lib.hid (below_step HB1.out hb2)
      clear hb2
      go_wp2
      go_ret
      exact ⟨rfl, HB2.out⟩
    · have HF1 := Lib.hid (few_of (few := 10) (room := 3000) h1)
      clear h1
      go_wp2_with fail
      refine (short_any 10 3000 l2 _ _ (HV2.out.later HB1.out) hl2 (by decide) (by decide) HS2.out).mono ?_
      rintro e w2 ⟨rfl, hb2⟩
      have HB2 := Lib.hid (below_step HB1.out hb2)
      clear hb2
      cases h2 : shortB 10 3000 l2
      · clear h2
        go_wp2_with fail
        refine (alive6_any _).mono ?_
        rintro e w3 ⟨rfl, hb3⟩
        have HB3 := Lib.hid (below_step HB2.out hb3)
        clear hb3
        go_wp2
        go_ret
        exact ⟨rfl, HB3.out⟩
      · have HF2 := Lib.hid (few_of (few := 10) (room := 3000) h2)
        clear h2
        go_wp2_with fail
        refine (new_ex _).mono ?_
        rintro e w3 ⟨d, m, hd, hm, rfl, hd3, hb3⟩
        have HD3 := Lib.hid hd3
        have HB3 := Lib.hid (below_step HB2.out hb3)
        have HDM := Lib.hid (show w0.heap.size ≤ d ∧ w0.heap.size ≤ m from ⟨Nat.le_trans HB2.out.size hd, Nat.le_trans HB2.out.size hm⟩)
        clear hd3 hb3 hd hm
        go_wp2_with fail
        refine (live_fresh HB3.out.size HB3.out HDM.out.1 HDM.out.2 HD3.out ⟨#[119]⟩ (by decide)).mono ?_
        rintro e w4 ⟨g, rv, S, rfl, hlive⟩
        have HL4 := Lib.hid hlive
        clear hlive
        go_wp2_with fail
        refine (live_commit HL4.out l1 _ (HL4.out.here.now rfl HV1.out) (fun W rv' hk => HL4.out.older rfl HV1.out hk) (HF1.out.fits (by decide) (by decide)) (by rw [logBytes_nil]; have := HF1.out.bytes (by decide); omega) (by have := HF1.out.len; simp; omega)).mono ?_
        rintro e w5 ⟨rv5, S5, rfl, hlive, -⟩
        have HL5 := Lib.hid hlive
        clear hlive
        have hflat : (addGroup [] (raw l1)).flatten = raw l1 := by rw [flatten_add]; rfl
        have hlb : (logBytes (addGroup [] (raw l1))).length ≤ 3102 := by
          unfold addGroup
          split
          · rw [logBytes_nil]; omega
          · rw [List.nil_append, logBytes_one]; have := HF1.out.bytes (by decide); omega
        have hr1 : (raw l1).length ≤ 10 := by unfold raw; rw [List.length_map]; exact HF1.out.len
        generalize hgs : addGroup [] (raw l1) = gs at *
        have HFL := Lib.hid hflat
        have HLB := Lib.hid hlb
        have HGL := Lib.hid (show gs.length ≤ 1 by rw [← hgs]; unfold addGroup; split <;> simp)
        have HR1 := Lib.hid hr1
        clear hgs hflat hlb hr1
        obtain ⟨sy, hu⟩ := HL5.out.uno
        have HU5 := Lib.hid hu
        clear hu
        go_wp2_with fail
        refine (fuse_any d m S5 n _ HL5.out.here.disk).mono ?_
        rintro e w6 ⟨rfl, hd6, ho6⟩
        have HA6 := Lib.hid (HL5.out.here.only ho6 hd6)
        have HU6 := Lib.hid (HU5.out.setFuse n HN.out)
        clear hd6 ho6
        go_wp2_with fail
        refine (commit_fuse_any HA6.out HU6.out HL5.out.calm.on HL5.out.small l2 _ (HA6.out.now rfl HV2.out) (fun W rv' hk => HA6.out.older rfl HV2.out hk) (HF2.out.fits (by decide) (by decide)) HNE.out (by rw [bytesOf_size]; have := HLB.out; have := HF2.out.bytes (by decide); omega)).mono ?_
        rintro e w7 ⟨rv7, S7, -, ⟨-, -, -, -, h2⟩ | ⟨rfl, ha7, hu7, -⟩⟩
        · have h3 := h2 (decide_eq_true HNN.out.1)
          have h4 := HNN.out.2
          have h3 : 2 ≤ n := h3
          omega
        have HA7 := Lib.hid ha7
        have HU7 := Lib.hid hu7
        clear ha7 hu7
        go_wp2_with fail
        refine (crash_ok HU7.out.ok _ [] HA7.out.disk (fun W _ => ints_nil W)).mono ?_
        rintro e w8 ⟨rfl, hd8, ho8⟩
        have HA8 := Lib.hid (HA7.out.only ho8 hd8)
        clear hd8 ho8
        go_wp2_with fail
        refine (restore_any d m _ _ HA8.out.disk).mono ?_
        rintro e w9 ⟨rfl, hd9, ho9⟩
        have HA9 := Lib.hid (HA8.out.only ho9 hd9)
        clear hd9 ho9
        go_wp2_with fail
        refine (commit_broken_any HA9.out ((HU7.out.ok.crash []).setOn true) rfl ⟨by show gs.flatten.length ≤ _; rw [HFL.out]; have := HR1.out; omega, by show gs.length ≤ _; have := HGL.out; omega, by show (logBytes gs).length ≤ _; have := HLB.out; omega⟩ l2 _ (HA9.out.now rfl HV2.out) (fun W rv' hk => HA9.out.older rfl HV2.out hk) (HF2.out.fits (by decide) (by decide))).mono ?_
        rintro e w10 ⟨rv10, rfl, ha10, -⟩
        have HA10 := Lib.hid ha10
        clear ha10
        go_wp2_with fail
        refine (alive6_any _).mono ?_
        rintro e w11 ⟨rfl, hb11⟩
        have HA11 := Lib.hid (HA10.out.later hb11)
        clear hb11
        go_wp2_with fail
        refine (records_any _ HA11.out.log (by show gs.flatten.length ≤ _; rw [HFL.out]; have := HR1.out; omega)).mono ?_
        rintro e w12 ⟨v, recs, rfl, hr, ht, hb12⟩
        have HA12 := Lib.hid (HA11.out.later hb12)
        obtain rfl : recs = l1 := raw_inj (hr.trans HFL.out)
        have HT := Lib.hid ht.strs
        clear hr ht hb12
        go_wp2_with fail
        refine (same_any recs recs _ _ _ HT.out (HA12.out.now rfl HV1.out) hl1).mono ?_
        rintro e w13 ⟨rfl, nd, rfl⟩
        rw [sameB_refl]
        go_wp2
        go_ret
        exact ⟨rfl, below_drawN HA12.out.below _⟩

end Go.Proofs.YtncpeaamfmfcgaaGreat
