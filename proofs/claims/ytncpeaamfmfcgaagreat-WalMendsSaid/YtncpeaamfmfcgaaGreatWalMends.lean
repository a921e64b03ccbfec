/- WalMends: whatever bytes stand behind the last group, opened anew there are the groups, the file is mended, and goes on. -/
import Derived.Test.YtncpeaamfmfcgaaGreatWalMore
import Derived.Test.YtncpeaamfmfcgaaGreatGroups
namespace Go.Proofs.YtncpeaamfmfcgaaGreat
open Go.RowKit Go.Proofs.YtncpeaamfmfcgaaGreat.Sum

/-- What holds at a round's head: k groups are written, and all of their records are in the law's own row. -/
def MendRel (w0 : World) (B d m g : Nat) (l : List (List ByteArray)) (k : Nat) (av : Value) (wr : World) : Prop :=
  ∃ rv S gs, Live w0 B wr d m g rv S ⟨#[119]⟩ gs ∧ gs.flatten = raw (l.take k).flatten ∧ Texts wr B av (l.take k).flatten ∧ (∀ q, av.ownBlock = some q → rv.ownBlock ≠ some q) ∧ (logBytes gs).length ≤ k * 592 ∧ gs.length ≤ k ∧ (l.take k).flatten.length ≤ k * 20

set_option maxHeartbeats 8000000 in
set_option maxRecDepth 100000 in
theorem walk_walMends (w0 : World) (l : List (List ByteArray)) (v : Value) (hv : GroupsIn w0 v l) (hl : l.length ≤ maxLen) (hs : ∀ g ∈ l, g.length ≤ maxLen ∧ ∀ s ∈ g, s.size ≤ maxLen) (t : ByteArray) (ht : t.size ≤ maxLen) (l2 : List ByteArray) (v2 : Value) (hv2 : Strs w0 v2 l2) (hl2 : l2.length ≤ maxLen) (hs2 : ∀ s ∈ l2, s.size ≤ maxLen) :
    Calls Tryz.prog 4 #[v, .string t, v2] w0 fun e w' => e = .returned (.bool true) ∧ Below w0.heap.size w0 w' := by
  unfold maxLen at hl hs ht hl2 hs2
  have HV2 := Lib.hid hv2
  have HS := Lib.hid hs
  have HS2 := Lib.hid hs2
  obtain ⟨a, cap, rfl, hk⟩ := hv
  have HC := Lib.hid hk
  obtain ⟨a2, cap2, rfl, -⟩ := hv2.shape
  clear hv2 hs hs2 hk
  by_cases hg : 10 < l.length ∨ 3000 < t.size ∨ 10 < l2.length ∨ 8 ≤ t.size
  · have key : decide ((10 : Int) < l.length) = true ∨ (decide ((10 : Int) < l.length) = false ∧ decide ((3000 : Int) < t.size) = true) ∨ (decide ((10 : Int) < l.length) = false ∧ decide ((3000 : Int) < t.size) = false ∧ decide ((10 : Int) < l2.length) = true) ∨
        (decide ((10 : Int) < l.length) = false ∧ decide ((3000 : Int) < t.size) = false ∧ decide ((10 : Int) < l2.length) = false ∧ decide ((8 : Int) ≤ t.size) = true) := by
      simp only [decide_eq_true_eq, decide_eq_false_iff_not]; omega
    clear hg
    rcases key with t1 | ⟨t1, t2⟩ | ⟨t1, t2, t3⟩ | ⟨t1, t2, t3, t4⟩
    all_goals
      go_enter Tryz.func4, Tryz.ntmps4
      go_wp2_with fail
      refine (alive6_any _).mono ?_
      rintro e w1 ⟨rfl, hb1⟩
      go_wp2
      go_ret
      exact ⟨rfl, hb1⟩
  · have t1 : decide ((10 : Int) < l.length) = false := decide_eq_false (by omega)
    have t2 : decide ((3000 : Int) < t.size) = false := decide_eq_false (by omega)
    have t3 : decide ((10 : Int) < l2.length) = false := decide_eq_false (by omega)
    have t4 : decide ((8 : Int) ≤ t.size) = false := decide_eq_false (by omega)
    have HLN := Lib.hid (show l.length ≤ 10 ∧ t.size < 8 ∧ l2.length ≤ 10 by omega)
    clear hg
    go_enter Tryz.func4, Tryz.ntmps4
    go_wp2_with fail
    refine (new_ex _).mono ?_
    rintro e w3 ⟨d, m, hd, hm, rfl, hd3, hb3⟩
    have HD3 := Lib.hid hd3
    have HB3 := Lib.hid hb3
    have HDM := Lib.hid (And.intro hd hm)
    clear hd3 hb3 hd hm
    go_wp2_with fail
    refine (live_fresh HB3.out.size HB3.out HDM.out.1 HDM.out.2 HD3.out ⟨#[119]⟩ (by decide)).mono ?_
    rintro e w4 ⟨g, rv, S, rfl, hlive⟩
    have HSTART := Lib.hid (show MendRel w0 w0.heap.size d m g l 0 (.slice none 0 0) w4 from ⟨rv, S, [], hlive, rfl, Texts.nil _ _, (fun _ h => by cases h), Nat.le_refl _, Nat.le_refl _, Nat.le_refl _⟩)
    clear hlive
    go_wp2
    go_loopw [10, 11] (fun av iv wr => ∃ k : Nat, k ≤ l.length ∧ iv = .int .i64 (k : Int) ∧ MendRel w0 w0.heap.size d m g l k av wr) (fun _ iv _ => l.length - (intOf iv).toNat)
    case atStart => exact ⟨0, Nat.zero_le _, rfl, HSTART.out⟩
    case round =>
      obtain ⟨k, hk, rfl, rv', S', gs, hlive, hflat, hat, hne, hlb, hgl, hfl⟩ := hrel
      have HL := Lib.hid hlive
      have HFL := Lib.hid hflat
      have HAT := Lib.hid hat
      have HNE := Lib.hid hne
      have HLB := Lib.hid hlb
      have HGL := Lib.hid hgl
      have HFLL := Lib.hid hfl
      clear hlive hflat hat hne hlb hgl hfl
      by_cases hlt : k < l.length
      · obtain ⟨b, off, vk, rfl, hbw, hcell, hvk⟩ := HC.out k hlt
        have hcell' := (HL.out.here.below.cell (p := ⟨b, off + k, none⟩) hbw).trans hcell
        have hsk := HS.out l[k] (List.getElem_mem hlt)
        have HTK := Lib.hid (show (l.take (k + 1)).flatten = (l.take k).flatten ++ l[k] by rw [List.take_succ_eq_append_getElem hlt, List.flatten_append]; simp)
        generalize l[k] = s at *
        have HVK := Lib.hid hvk
        have HSS := Lib.hid hsk.2
        have hsl := hsk.1
        have HBW := Lib.hid hbw
        have HCELL := Lib.hid hcell
        clear hvk hsk hcell hbw
        go_wp2_with fail
        refine (short_any 20 400 s _ _ (HVK.out.later HL.out.here.below) hsl (by decide) (by decide) HSS.out).mono ?_
        rintro e w5 ⟨rfl, hb5⟩
        have HL5 := Lib.hid (HL.out.later hb5)
        have HAT5 := Lib.hid (HAT.out.later hb5)
        clear hb5 hcell'
        cases hsh : shortB 20 400 s
        · clear hsh
          go_wp2_with fail
          refine (alive6_any _).mono ?_
          rintro e w6 ⟨rfl, hb6⟩
          have HB6 := Lib.hid (HL5.out.later hb6).here.below
          clear hb6
          go_wp2
          go_ret
          exact ⟨rfl, HB6.out⟩
        · have HF := Lib.hid (few_of (few := 20) (room := 400) hsh)
          have hcell5 := (HL5.out.here.below.cell (p := ⟨b, off + k, none⟩) HBW.out).trans HCELL.out
          clear hsh
          go_wp2_with fail
          refine (live_commit HL5.out s _ (HL5.out.here.now rfl HVK.out) (fun W rv' hk => HL5.out.older rfl HVK.out hk) (HF.out.fits (by decide) (by decide)) (by have := HF.out.bytes (by decide); have := HLB.out; have := HLN.out.1; omega) (by have h1 := congrArg List.length HFL.out; have h2 := HFLL.out; have := HF.out.len; have := HGL.out; have := HLN.out.1; rw [show (raw (l.take k).flatten).length = (l.take k).flatten.length from List.length_map ..] at h1; omega)).mono ?_
          rintro e w6 ⟨rv6, S6, rfl, hlive, hk6⟩
          have HL6 := Lib.hid hlive
          have HAT6 := Lib.hid (HAT5.out.keeps HL5.out.here HNE.out hk6)
          have HNE6 := Lib.hid (hk6.apart (fun q hq => (HAT5.out.lt q hq).2) HNE.out)
          have hcell6 := (HL6.out.here.below.cell (p := ⟨b, off + k, none⟩) HBW.out).trans HCELL.out
          clear hlive hk6 hcell5
          obtain ⟨ao, n', cap', w7, hrun, hat7, hg7, hblk⟩ := append_texts w6 w0.heap.size _ _ HAT6.out vk s (HL6.out.here.now rfl HVK.out) (by have h2 := HFLL.out; have := HF.out.len; have := HLN.out.1; omega) HL6.out.here.size
          have HR := Lib.hid hrun
          have HREL := Lib.hid (show MendRel w0 w0.heap.size d m g l (k + 1) (.slice ao n' cap') w7 from by
            refine ⟨rv6, S6, _, HL6.out.grown HAT6.out (Nat.le_refl _) HNE6.out hg7, ?_, ?_, ?_, ?_, ?_, ?_⟩
            · rw [flatten_add, HFL.out, HTK.out]; exact (List.map_append ..).symm
            · rw [HTK.out]; exact hat7
            · intro q hq
              rcases hblk with h | h
              · exact HNE6.out q (h.symm.trans hq)
              · rw [h] at hq
                have := Option.some.inj hq
                intro hr
                have := (HL6.out.here.log.row q hr).2
                omega
            · have := (addGroup_few (gs := gs) HF.out (by decide)).1
              have := HLB.out
              omega
            · have := (addGroup_few (gs := gs) HF.out (by decide)).2
              have := HGL.out
              omega
            · rw [HTK.out, List.length_append]
              have := HF.out.len
              have := HFLL.out
              omega)
          clear hrun hat7 hg7 hblk
          go_wp2_with (at_builtin; refine wpList_append_run rfl _ _ _ rfl _ _ _ _ rfl rfl HR.out ?_)
          go_roundw
          case rel => exact ⟨k + 1, by omega, by go_num, HREL.out⟩
          case measure => simp [intOf]; omega
      · have hkl : k = l.length := by omega
        subst hkl
        rw [List.take_length] at HFL HAT HFLL
        have HG10 := Lib.hid (show (logBytes gs).length ≤ 5920 ∧ gs.length ≤ 10 ∧ l.flatten.length ≤ 200 by have := HLB.out; have := HGL.out; have := HFLL.out; have := HLN.out.1; omega)
        clear hlt hk
        go_wp2_with fail
        refine (live_size HL.out).mono ?_
        rintro e w5 ⟨rfl, rfl⟩
        obtain ⟨sy, hu⟩ := HL.out.uno
        have HU := Lib.hid hu
        clear hu
        obtain ⟨x1, x2, x3⟩ := append_calm HU.out HL.out.calm t (by rw [bytesOf_size]; have := HG10.out.1; have := HLN.out.2.1; omega)
        have HU6 := Lib.hid x2
        have HC6 := Lib.hid x3
        have HX1 := Lib.hid x1
        clear x1 x2 x3
        go_wp2_with fail
        refine (append_ok HU.out.ok ⟨#[119]⟩ t (by have := HLN.out.2.1; omega) HL.out.here.disk).mono ?_
        rintro e w6 ⟨rfl, hd6, ho6⟩
        rw [HX1.out]
        have HA6 := Lib.hid (HL.out.here.only ho6 hd6)
        have HT6 := Lib.hid (HAT.out.only' HL.out.here ho6)
        clear hd6 ho6
        have htl : t.data.toList.length < 8 := by rw [← Lib.size_eq]; exact HLN.out.2.1
        have HTL := Lib.hid htl
        clear htl
        go_wp2_with fail
        refine (live_open (gs := gs) (sy := sy) t.data.toList HA6.out.size HA6.out.below HA6.out.hd HA6.out.hm HA6.out.disk (by rw [show (⟨t.data.toList.toArray⟩ : ByteArray) = t by rw [Array.toArray_toList]]; exact HU6.out) HC6.out (by decide) (by decide) HL.out.fits HL.out.few (good_tail gs HL.out.fits _ HTL.out) (by have := HG10.out.1; have := HTL.out; omega)).mono ?_
        rintro e w7 ⟨gy, rvy, Sy, rfl, hlive, ho7, -, hry⟩
        have HL7 := Lib.hid hlive
        have HT7 := Lib.hid (HT6.out.only' HA6.out ho7)
        have HNE7 := Lib.hid (apart_of_lt HT6.out hry)
        clear hlive ho7 hry
        go_wp2_with fail
        refine (live_records HL7.out).mono ?_
        rintro e w8 ⟨vr, recs, rfl, hr, hrt, hb8⟩
        have HL8 := Lib.hid (HL7.out.later hb8)
        have HT8 := Lib.hid (HT7.out.later hb8)
        obtain rfl : recs = l.flatten := raw_inj (hr.trans HFL.out)
        have HRT := Lib.hid hrt
        clear hr hrt hb8
        go_wp2_with fail
        refine (same_any l.flatten l.flatten _ _ _ HRT.out.strs HT8.out.strs (by have := HG10.out.2.2; omega)).mono ?_
        rintro e w9 ⟨rfl, n9, rfl⟩
        rw [show sameB l.flatten l.flatten = true from decide_eq_true rfl]
        have HL9 := Lib.hid (HL8.out.later (below_draws w8 n9))
        have HT9 := Lib.hid (HT8.out.later (below_draws w8 n9))
        go_wp2_with fail
        refine (live_size HL9.out).mono ?_
        rintro e w10 ⟨rfl, rfl⟩
        obtain ⟨sy9, hu9⟩ := HL9.out.uno
        have HU9 := Lib.hid hu9
        clear hu9
        go_wp2_with fail
        refine (read_any d m Sy ⟨#[119]⟩ _ HL9.out.here.disk).mono ?_
        rintro e w10 ⟨rfl, hb10⟩
        rw [HL9.out.calm.on, HU9.out.read, lackErr_true HU9.out.has]
        have HL10 := Lib.hid (HL9.out.later hb10)
        have HT10 := Lib.hid (HT9.out.later hb10)
        have hbsz : ((bytesOf gs).size : Int) = ((logBytes gs).length : Int) := by rw [bytesOf_size]
        have hbsz' : (bytesOf gs).size = (logBytes gs).length := bytesOf_size gs
        clear hb10
        go_wp2_with fail
        refine (files_ok HU9.out.ok HL10.out.here.disk).mono ?_
        rintro e w11 ⟨vf, rfl, hvf, hb11⟩
        rw [HU9.out.names] at hvf
        have HL11 := Lib.hid (HL10.out.later hb11)
        have HT11 := Lib.hid (HT10.out.later hb11)
        obtain ⟨fa, fcap, hff, -⟩ := hvf.shape
        subst hff
        clear hvf hb11
        go_wp2_with fail
        refine (short_any 10 400 l2 _ _ (HL11.out.here.now rfl HV2.out) hl2 (by decide) (by decide) HS2.out).mono ?_
        rintro e w12 ⟨rfl, hb12⟩
        have HL12 := Lib.hid (HL11.out.later hb12)
        have HT12 := Lib.hid (HT11.out.later hb12)
        clear hb12
        cases hsh : shortB 10 400 l2
        · clear hsh
          go_wp2_with fail
          refine (alive6_any _).mono ?_
          rintro e w13 ⟨rfl, hb13⟩
          have HB13 := Lib.hid (HL12.out.later hb13).here.below
          clear hb13
          go_wp2
          go_ret
          exact ⟨rfl, HB13.out⟩
        · have HF := Lib.hid (few_of (few := 10) (room := 400) hsh)
          clear hsh
          go_wp2_with fail
          refine (live_commit HL12.out l2 _ (HL12.out.here.now rfl HV2.out) (fun W rv' hk => HL12.out.older rfl HV2.out hk) (HF.out.fits (by decide) (by decide)) (by have := HF.out.bytes (by decide); have := HG10.out.1; omega) (by have h1 := congrArg List.length HFL.out; have := HF.out.len; have := HG10.out; rw [show (raw l.flatten).length = l.flatten.length from List.length_map ..] at h1; omega)).mono ?_
          rintro e w13 ⟨rv13, S13, rfl, hlive, hk13⟩
          have HL13 := Lib.hid hlive
          have HT13 := Lib.hid (HT12.out.keeps HL12.out.here HNE7.out hk13)
          clear hlive hk13
          go_wp2_with fail
          refine (live_reopen HL13.out (by decide) (by decide) (by have := (addGroup_few (gs := gs) HF.out (by decide)).1; have := HG10.out.1; omega)).mono ?_
          rintro e w14 ⟨gz, rvz, Sz, rfl, hlive, ho14, -, -⟩
          have HL14 := Lib.hid hlive
          have HT14 := Lib.hid (HT13.out.only' HL13.out.here ho14)
          clear hlive ho14
          go_wp2_with fail
          refine (alive6_any _).mono ?_
          rintro e w15 ⟨rfl, hb15⟩
          have HL15 := Lib.hid (HL14.out.later hb15)
          have HT15 := Lib.hid (HT14.out.later hb15)
          clear hb15
          go_wp2_with fail
          refine (live_records HL15.out).mono ?_
          rintro e w16 ⟨vz, recs, rfl, hr, hrt, hb16⟩
          have HL16 := Lib.hid (HL15.out.later hb16)
          have HT16 := Lib.hid (HT15.out.later hb16)
          obtain rfl : recs = l.flatten ++ l2 := raw_inj (by rw [hr, flatten_add, HFL.out]; exact (List.map_append ..).symm)
          have HRT := Lib.hid hrt
          obtain ⟨x1, n1, c1, w17, x2, n2, c2, w18, hr1, hr2, hj, hb18⟩ := join_texts w16 _ _ l.flatten l2 HT16.out.strs (HL16.out.here.now rfl HV2.out) (by have := HG10.out; have := HF.out.len; omega)
          have HR1 := Lib.hid hr1
          have HR2 := Lib.hid hr2
          have HJ := Lib.hid hj
          have HL18 := Lib.hid (HL16.out.later hb18)
          have HRT18 := Lib.hid (HRT.out.later hb18)
          clear hr hrt hb16 hr1 hr2 hj hb18
          have hjl : (l.flatten ++ l2).length ≤ 9223372036854775807 := by rw [List.length_append]; have := HG10.out; have := HF.out.len; omega
          go_wp2_with (first
            | (at_builtin; refine wpList_append_run rfl _ _ _ rfl _ _ _ _ rfl rfl HR1.out ?_)
            | (at_builtin; refine wpList_append_run rfl _ _ _ rfl _ _ _ _ rfl rfl HR2.out ?_)
            | fail)
          refine (same_any (l.flatten ++ l2) (l.flatten ++ l2) _ _ _ HRT18.out.strs HJ.out.strs hjl).mono ?_
          rintro e w19 ⟨rfl, n19, rfl⟩
          rw [show sameB (l.flatten ++ l2) (l.flatten ++ l2) = true from decide_eq_true rfl]
          have HB19 := Lib.hid (below_drawN HL18.out.here.below n19)
          go_wp2
          go_ret
          exact ⟨rfl, HB19.out⟩

end Go.Proofs.YtncpeaamfmfcgaaGreat
