/- WalWhole: wherever the power fails, whatever of the last bytes stays: opened anew there are all groups that were OK, in order, and of the one under way all or none; opening twice is as opening once. -/
import Derived.Test.YtncpeaamfmfcgaaGreatWalMore
import Derived.Test.YtncpeaamfmfcgaaGreatGroups
import Derived.Deep.RegionHeld3
import Derived.Deep.CutRange
namespace Go.Proofs.YtncpeaamfmfcgaaGreat
open Go.RowKit Go.Proofs.YtncpeaamfmfcgaaGreat.Sum

/-- What holds at a round's head: k groups are there; both rows hold their records. -/
def WholeRel (w0 : World) (B d m g : Nat) (l : List (List ByteArray)) (k : Nat) (sv pv : Value) (wr : World) : Prop :=
  ∃ rv S gs, At w0 B wr d m g rv S (logOf ⟨#[119]⟩ gs) ∧ Uno S ⟨#[119]⟩ (bytesOf gs) (logBytes gs).length ∧ S.on = true ∧ (∀ x ∈ gs, Fits x) ∧ gs.flatten = raw (l.take k).flatten ∧ Texts wr B sv (l.take k).flatten ∧ Texts wr B pv (l.take k).flatten ∧
    (∀ q, sv.ownBlock = some q → rv.ownBlock ≠ some q) ∧ (∀ q, pv.ownBlock = some q → rv.ownBlock ≠ some q) ∧ (logBytes gs).length ≤ k * 592 ∧ gs.length ≤ k ∧ (l.take k).flatten.length ≤ k * 20

/-- What a file with groups and a part of one more tells: all of that one or none of it. -/
def Tells (gs : List (List (List UInt8))) (x : List UInt8) (a b : List (List UInt8)) : Prop :=
  ∀ j, j ≤ x.length → ∃ gs' t, logBytes gs ++ x.take j = logBytes gs' ++ t ∧ goodOf (logBytes gs' ++ t) = (gs'.flatten, gs'.length, (logBytes gs').length) ∧ (∀ y ∈ gs', Fits y) ∧ (gs'.flatten = a ∨ gs'.flatten = b) ∧ gs'.length ≤ gs.length + 1
theorem tells_all {gs : List (List (List UInt8))} (hf : ∀ y ∈ gs, Fits y) (b : List (List UInt8)) : Tells gs [] gs.flatten b := by
  intro j hj
  obtain rfl : j = 0 := by simpa using hj
  exact ⟨gs, [], rfl, good_tail gs hf [] (by simp), hf, .inl rfl, by omega⟩
theorem tells_one {gs : List (List (List UInt8))} {g : List (List UInt8)} (hf : ∀ y ∈ gs, Fits y) (hg : Fits g) : Tells gs (groupBytes g) gs.flatten (gs.flatten ++ g) := by
  intro j hj
  rcases Nat.lt_or_ge j (groupBytes g).length with h | h
  · exact ⟨gs, _, rfl, good_cut gs hf g hg j h, hf, .inl rfl, by omega⟩
  · have hfit : ∀ y ∈ gs ++ [g], Fits y := by
      intro y hy
      rcases List.mem_append.1 hy with h1 | h1
      · exact hf y h1
      · obtain rfl := List.mem_singleton.1 h1; exact hg
    refine ⟨gs ++ [g], [], ?_, good_tail _ hfit [] (by simp), hfit, .inr ?_, by simp⟩
    · rw [List.take_of_length_le h, logBytes_snoc, List.append_nil]
    · rw [List.flatten_append]; simp

/-- What holds behind the loop. -/
def WholeEnd (w0 : World) (B d m g : Nat) (sv pv : Value) (wr : World) : Prop :=
  ∃ rv S L gs x a b, At w0 B wr d m g rv S L ∧ Uno S ⟨#[119]⟩ (bytesOf gs ++ ⟨x.toArray⟩) (logBytes gs).length ∧ L.recs = raw a ∧ Tells gs x (raw a) (raw b) ∧ Texts wr B sv a ∧ Texts wr B pv b ∧
    (∀ q, sv.ownBlock = some q → rv.ownBlock ≠ some q) ∧ (∀ q, pv.ownBlock = some q → rv.ownBlock ≠ some q) ∧ (logBytes gs).length ≤ 11840 ∧ x.length ≤ 592 ∧ gs.length ≤ 20 ∧ a.length ≤ 400 ∧ b.length ≤ 420

theorem sameB_self (l : List ByteArray) : sameB l l = true := decide_eq_true rfl
theorem raw_len (l : List ByteArray) : (raw l).length = l.length := List.length_map ..
theorem whole_extract {gs gs' : List (List (List UInt8))} {x t : List UInt8} {j : Nat} (h1 : (logBytes gs).length ≤ j) (h : logBytes gs ++ x.take (j - (logBytes gs).length) = logBytes gs' ++ t) :
    (bytesOf gs ++ ⟨x.toArray⟩).extract 0 j = bytesOf gs' ++ ⟨t.toArray⟩ := by
  apply ByteArray.ext
  rw [← Array.toList_inj, Lib.extract_data, ByteArray.data_append, ByteArray.data_append]
  simp only [bytesOf, Array.toList_append, List.drop_zero, Nat.sub_zero, List.take_append]
  rw [List.take_of_length_le h1]
  exact h
theorem whole_small {gs : List (List (List UInt8))} {l : List ByteArray} {k : Nat} (hk : k ≤ 20) (hf : gs.flatten = raw l) (hl : l.length ≤ k * 20) (hg : gs.length ≤ k) (hb : (logBytes gs).length ≤ k * 592) : Small (logOf ⟨#[119]⟩ gs) :=
  ⟨rfl, by show gs.flatten.length ≤ _; rw [hf, raw_len]; omega, by show gs.length ≤ _; omega, by show (logBytes gs).length ≤ _; omega⟩
theorem logOf_snoc (name : ByteArray) (gs : List (List (List UInt8))) (g : List (List UInt8)) : ({ logOf name gs with recs := (logOf name gs).recs ++ g, groups := (logOf name gs).groups + 1, size := (logOf name gs).size + (groupBytes g).length } : LSt) = logOf name (gs ++ [g]) := by
  unfold logOf
  simp [logBytes_snoc]
theorem fits_snoc {gs : List (List (List UInt8))} {g : List (List UInt8)} (hf : ∀ x ∈ gs, Fits x) (hg : Fits g) : ∀ x ∈ gs ++ [g], Fits x := by
  intro x hx
  rcases List.mem_append.1 hx with h1 | h1
  · exact hf x h1
  · obtain rfl := List.mem_singleton.1 h1; exact hg

/-- As join_texts, and what the first append leaves. -/
theorem join_texts2 (w : World) (u v : Value) (l1 l2 : List ByteArray) (h1 : Strs w u l1) (h2 : Strs w v l2) (hn : l1.length + l2.length ≤ 1000000000) :
    ∃ a1 n1 c1 w1 a2 n2 c2 w2, (Builtin.append_ #[22, 22] 22 #[.slice none 0 0, u]).run Tryz.prog w = .ok (.slice a1 n1 c1) w1 ∧
      (Builtin.append_ #[22, 22] 22 #[.slice a1 n1 c1, v]).run Tryz.prog w1 = .ok (.slice a2 n2 c2) w2 ∧ Texts w2 w.heap.size (.slice a2 n2 c2) (l1 ++ l2) ∧ Below w.heap.size w w2 ∧ Below w.heap.size w w1 := by
  obtain ⟨a1, n1, c1, w1, hr1, ht1, hg1, -⟩ := append_texts w w.heap.size (.slice none 0 0) [] (Texts.nil _ _) u l1 h1 (by simp; omega) (Nat.le_refl _)
  rw [List.nil_append] at ht1
  have hb1 : Below w.heap.size w w1 := ⟨hg1.os, hg1.tape, hg1.output, hg1.size, fun k hk => hg1.block k hk (by simp [Value.ownBlock])⟩
  obtain ⟨a2, n2, c2, w2, hr2, ht2, hg2, -⟩ := append_texts w1 w.heap.size _ l1 ht1 v l2 (h2.later hb1) hn hb1.size
  exact ⟨a1, n1, c1, w1, a2, n2, c2, w2, hr1, hr2, ht2, Below.grownTexts hb1 ht1 hg2 hb1.size, hb1⟩

set_option maxHeartbeats 16000000 in
set_option maxRecDepth 100000 in
theorem walk_walWhole (w0 : World) (l : List (List ByteArray)) (v : Value) (hv : GroupsIn w0 v l) (hl : l.length ≤ maxLen) (hs : ∀ g ∈ l, g.length ≤ maxLen ∧ ∀ s ∈ g, s.size ≤ maxLen) (n : Int) (hn : -9223372036854775808 ≤ n ∧ n ≤ 9223372036854775807) (keep : List Int) (kv : Value) (hkeep : Ints w0 kv keep) :
    Calls Tryz.prog 6 #[v, .int .i64 n, kv] w0 fun e w' => e = .returned (.bool true) ∧ Below w0.heap.size w0 w' := by
  unfold maxLen at hl hs
  have HS := Lib.hid hs
  have HN := Lib.hid hn
  have HKP := Lib.hid hkeep
  obtain ⟨a, cap, rfl, hk⟩ := hv
  have HC := Lib.hid hk
  clear hs hn hkeep hk
  by_cases hg : 20 < l.length ∨ n < 0
  · have key : decide ((20 : Int) < l.length) = true ∨ (decide ((20 : Int) < l.length) = false ∧ decide (n < 0) = true) := by
      simp only [decide_eq_true_eq, decide_eq_false_iff_not]; omega
    clear hg
    rcases key with t1 | ⟨t1, t2⟩
    all_goals
      go_enter Tryz.func6, Tryz.ntmps6
      go_wp2_with fail
      refine (alive6_any _).mono ?_
      rintro e w1 ⟨rfl, hb1⟩
      go_wp2
      go_ret
      exact ⟨rfl, hb1⟩
  · have t1 : decide ((20 : Int) < l.length) = false := decide_eq_false (by omega)
    have t2 : decide (n < 0) = false := decide_eq_false (by omega)
    have HLN := Lib.hid (show l.length ≤ 20 by omega)
    clear hg
    go_enter Tryz.func6, Tryz.ntmps6
    go_wp2_with fail
    refine (new_ex _).mono ?_
    rintro e w3 ⟨d, m, hd, hm, rfl, hd3, hb3⟩
    have HD3 := Lib.hid hd3
    have HB3 := Lib.hid hb3
    have HDM := Lib.hid (And.intro hd hm)
    clear hd3 hb3 hd hm
    go_wp2_with fail
    refine (live_fresh HB3.out.size HB3.out HDM.out.1 HDM.out.2 HD3.out ⟨#[119]⟩ (by decide)).mono ?_
    rintro e w4 ⟨g, rv, S, rfl, hlive⟩
    have HL4 := Lib.hid hlive
    clear hlive
    go_wp2_with fail
    refine (fuse_any d m S n _ HL4.out.here.disk).mono ?_
    rintro e w5 ⟨rfl, hd5, ho5⟩
    have HSTART := Lib.hid (show WholeRel w0 w0.heap.size d m g l 0 (.slice none 0 0) (.slice none 0 0) w5 from by
      obtain ⟨sy, hu⟩ := HL4.out.uno
      have hsy : sy = 0 := by have := hu.size.2.2; rw [bytesOf_size, logBytes_nil] at this; omega
      subst hsy
      exact ⟨rv, _, [], HL4.out.here.only ho5 hd5, hu.setFuse n HN.out, HL4.out.calm.on, (fun _ h => by cases h), rfl, Texts.nil _ _, Texts.nil _ _, (fun _ h => by cases h), (fun _ h => by cases h), Nat.le_refl _, Nat.le_refl _, Nat.le_refl _⟩)
    clear hd5 ho5
    go_upto_region 9 with fail
    go_cut [12] from 43 (fun iv w => iv = .int .i64 0 ∧ w = w5)
    case first =>
      go_wp2
      go_meet
      exact ⟨rfl, rfl⟩
    obtain ⟨rfl, rfl⟩ := hcut
    rename_i hk9
    refine hk9 _ _ ?_
    go_cut [10, 11] from 12 (fun sv pv w => WholeEnd w0 w0.heap.size d m g sv pv w)
    case rest =>
      clear hk9 HSTART HL4
      obtain ⟨rv6, S6, L6, gs, x, a', b', hat, hu, hrec, htells, hsv, hpv, hnes, hnep, hlb, hx, hgl, hal, hbl⟩ := hcut
      have HA := Lib.hid hat
      have HU := Lib.hid hu
      have HREC := Lib.hid hrec
      have HTELLS := Lib.hid htells
      have HSV := Lib.hid hsv
      have HPV := Lib.hid hpv
      have HB := Lib.hid (And.intro hlb (And.intro hx (And.intro hgl (And.intro hal hbl))))
      clear hat hu hrec htells hsv hpv hnes hnep hlb hx hgl hal hbl
      go_wp2_with fail
      refine (records_any _ HA.out.log (by rw [HREC.out, raw_len]; have := HB.out.2.2.2.1; omega)).mono ?_
      rintro e w6 ⟨v6, recs, rfl, hr, hrt, hb6⟩
      obtain rfl : recs = a' := raw_inj (hr.trans HREC.out)
      have HA6 := Lib.hid (HA.out.later hb6)
      have HSV6 := Lib.hid (HSV.out.later hb6)
      have HPV6 := Lib.hid (HPV.out.later hb6)
      have HRT := Lib.hid hrt
      clear hr hrt hb6
      go_wp2_with fail
      refine (same_any recs recs _ _ _ HRT.out.strs HSV6.out.strs (by have := HB.out.2.2.2.1; omega)).mono ?_
      rintro e w7 ⟨rfl, n7, rfl⟩
      rw [sameB_self]
      have HA7 := Lib.hid (HA6.out.later (below_draws w6 n7))
      have HSV7 := Lib.hid (HSV6.out.later (below_draws w6 n7))
      have HPV7 := Lib.hid (HPV6.out.later (below_draws w6 n7))
      clear HRT
      go_wp2_with fail
      refine (crash_ok HU.out.ok kv keep HA7.out.disk (fun W ho => HKP.out.later (ho.below HA7.out.below HA7.out.size HA7.out.hd HA7.out.hm))).mono ?_
      rintro e w8 ⟨rfl, hd8, ho8⟩
      have HA8 := Lib.hid (HA7.out.only ho8 hd8)
      have HSV8 := Lib.hid (HSV7.out.only' HA7.out ho8)
      have HPV8 := Lib.hid (HPV7.out.only' HA7.out ho8)
      clear hd8 ho8
      go_wp2_with fail
      refine (restore_any d m _ _ HA8.out.disk).mono ?_
      rintro e w9 ⟨rfl, hd9, ho9⟩
      have HA9 := Lib.hid (HA8.out.only ho9 hd9)
      have HSV9 := Lib.hid (HSV8.out.only' HA8.out ho9)
      have HPV9 := Lib.hid (HPV8.out.only' HA8.out ho9)
      clear hd9 ho9
      obtain ⟨j, hj1, hj2, hu9, hc9⟩ := crash_state HU.out keep
      have hj3 : j - (logBytes gs).length ≤ x.length := by
        rw [ByteArray.size_append, bytesOf_size, Lib.size_eq] at hj2
        simp only at hj2
        omega
      obtain ⟨gs', t, ht1, ht2, ht3, ht4, ht5⟩ := HTELLS.out (j - (logBytes gs).length) hj3
      rw [whole_extract hj1 ht1] at hu9
      have HU9 := Lib.hid hu9
      have HC9 := Lib.hid hc9
      have HT2 := Lib.hid ht2
      have HT3 := Lib.hid ht3
      have HT4 := Lib.hid ht4
      have HT5 := Lib.hid (show 2 * (logBytes gs').length + t.length ≤ 30000 ∧ gs'.length ≤ 1000000 ∧ gs'.flatten.length ≤ 1000000 from by
        have h1 := congrArg List.length ht1
        simp only [List.length_append, List.length_take] at h1
        have h2 : gs'.flatten.length ≤ 420 := by
          rcases ht4 with h | h
          · rw [h, raw_len]; have := HB.out.2.2.2.1; omega
          · rw [h, raw_len]; exact HB.out.2.2.2.2
        have := HB.out
        omega)
      clear hj1 hj2 hu9 hc9 hj3 ht1 ht2 ht3 ht4 ht5
      go_wp2_with fail
      refine (live_open (gs := gs') (sy := j) t HA9.out.size HA9.out.below HA9.out.hd HA9.out.hm HA9.out.disk HU9.out HC9.out (by decide) (by decide) HT3.out ⟨HT5.out.2.2, HT5.out.2.1⟩ HT2.out (by have := HT5.out.1; omega)).mono ?_
      rintro e w10 ⟨g10, rv10, S10, rfl, hlive, ho10, -, -⟩
      have HL10 := Lib.hid hlive
      have HSV10 := Lib.hid (HSV9.out.only' HA9.out ho10)
      have HPV10 := Lib.hid (HPV9.out.only' HA9.out ho10)
      clear hlive ho10
      go_wp2_with fail
      refine (live_records HL10.out).mono ?_
      rintro e w11 ⟨v11, recs2, rfl, hr, hrt, hb11⟩
      have HEQ := Lib.hid (show raw recs2 = gs'.flatten ∧ (recs2 = recs ∨ recs2 = b') from ⟨hr, HT4.out.imp (fun h => raw_inj (hr.trans h)) (fun h => raw_inj (hr.trans h))⟩)
      have HL11 := Lib.hid (HL10.out.later hb11)
      have HSV11 := Lib.hid (HSV10.out.later hb11)
      have HPV11 := Lib.hid (HPV10.out.later hb11)
      have HT11 := Lib.hid hrt
      clear hr hrt hb11
      go_wp2_with fail
      refine (live_reopen HL11.out (by decide) (by decide) (by have := HT5.out.1; omega)).mono ?_
      rintro e w12 ⟨g12, rv12, S12, rfl, hlive, ho12, -, -⟩
      have HL12 := Lib.hid hlive
      have HX12 := Lib.hid (HL11.out.here.log.only HL11.out.here.disk ho12)
      have HSV12 := Lib.hid (HSV11.out.only' HL11.out.here ho12)
      have HPV12 := Lib.hid (HPV11.out.only' HL11.out.here ho12)
      have HT12 := Lib.hid (HT11.out.only' HL11.out.here ho12)
      clear hlive ho12
      go_wp2_with fail
      refine (alive6_any _).mono ?_
      rintro e w13 ⟨rfl, hb13⟩
      have HL13 := Lib.hid (HL12.out.later hb13)
      have HX13 := Lib.hid (HX12.out.later hb13)
      have HSV13 := Lib.hid (HSV12.out.later hb13)
      have HPV13 := Lib.hid (HPV12.out.later hb13)
      have HT13 := Lib.hid (HT12.out.later hb13)
      have hl2 : recs2.length ≤ 1000000 := by have h1 := congrArg List.length HEQ.out.1; rw [raw_len] at h1; have := HT5.out.2.2; omega
      have HLE2 := Lib.hid (show recs2.length ≤ 9223372036854775807 by omega)
      clear hb13 hl2
      go_wp2_with fail
      refine (same_any recs2 recs _ _ _ HT13.out.strs HSV13.out.strs HLE2.out).mono ?_
      rintro e w14 ⟨rfl, n14, rfl⟩
      have HL14 := Lib.hid (HL13.out.later (below_draws w13 n14))
      have HX14 := Lib.hid (HX13.out.later (below_draws w13 n14))
      have HPV14 := Lib.hid (HPV13.out.later (below_draws w13 n14))
      have HT14 := Lib.hid (HT13.out.later (below_draws w13 n14))
      cases hta : sameB recs2 recs
      · obtain rfl : recs2 = b' := by
          rcases HEQ.out.2 with h | h
          · rw [h, sameB_self] at hta; cases hta
          · exact h
        clear hta
        go_wp2_with fail
        refine (same_any recs2 recs2 _ _ _ HT14.out.strs HPV14.out.strs HLE2.out).mono ?_
        rintro e w15 ⟨rfl, n15, rfl⟩
        rw [sameB_self]
        have HL15 := Lib.hid (HL13.out.later (below_draws w13 (n14 + n15)))
        have HX15 := Lib.hid (HX13.out.later (below_draws w13 (n14 + n15)))
        have HT15 := Lib.hid (HT13.out.later (below_draws w13 (n14 + n15)))
        go_wp2_with fail
        refine (live_records HL15.out).mono ?_
        rintro e w16 ⟨v16, recs3, rfl, hr, hrt, hb16⟩
        obtain rfl : recs3 = recs2 := raw_inj (hr.trans HEQ.out.1.symm)
        have HL16 := Lib.hid (HL15.out.later hb16)
        have HX16 := Lib.hid (HX15.out.later hb16)
        have HT16 := Lib.hid (HT15.out.later hb16)
        have HR16 := Lib.hid hrt
        clear hr hrt hb16
        go_wp2_with fail
        refine (same_any recs3 recs3 _ _ _ HR16.out.strs HT16.out.strs HLE2.out).mono ?_
        rintro e w17 ⟨rfl, n17, rfl⟩
        rw [sameB_self]
        have HL17 := Lib.hid (HL16.out.later (below_draws _ n17))
        have HX17 := Lib.hid (HX16.out.later (below_draws _ n17))
        go_wp2_with fail
        refine (live_groups HL17.out).mono ?_
        rintro e w18 ⟨rfl, rfl⟩
        go_wp2_with fail
        refine (groups_any _ HX17.out).mono ?_
        rintro e w18 ⟨rfl, rfl⟩
        go_wp2
        go_ret
        exact ⟨by simp [logOf], HL17.out.here.below⟩
      · clear hta
        go_wp2_with fail
        refine (live_records HL14.out).mono ?_
        rintro e w16 ⟨v16, recs3, rfl, hr, hrt, hb16⟩
        obtain rfl : recs3 = recs2 := raw_inj (hr.trans HEQ.out.1.symm)
        have HL16 := Lib.hid (HL14.out.later hb16)
        have HX16 := Lib.hid (HX14.out.later hb16)
        have HT16 := Lib.hid (HT14.out.later hb16)
        have HR16 := Lib.hid hrt
        clear hr hrt hb16
        go_wp2_with fail
        refine (same_any recs3 recs3 _ _ _ HR16.out.strs HT16.out.strs HLE2.out).mono ?_
        rintro e w17 ⟨rfl, n17, rfl⟩
        rw [sameB_self]
        have HL17 := Lib.hid (HL16.out.later (below_draws _ n17))
        have HX17 := Lib.hid (HX16.out.later (below_draws _ n17))
        go_wp2_with fail
        refine (live_groups HL17.out).mono ?_
        rintro e w18 ⟨rfl, rfl⟩
        go_wp2_with fail
        refine (groups_any _ HX17.out).mono ?_
        rintro e w18 ⟨rfl, rfl⟩
        go_wp2
        go_ret
        exact ⟨by simp [logOf], HL17.out.here.below⟩
    go_wp2
    go_loopw [10, 11, 12] (fun sv pv iv wr => ∃ k : Nat, k ≤ l.length ∧ iv = .int .i64 (k : Int) ∧ WholeRel w0 w0.heap.size d m g l k sv pv wr) (fun _ _ iv _ => l.length - (intOf iv).toNat)
    case atStart => exact ⟨0, Nat.zero_le _, rfl, HSTART.out⟩
    case round =>
      obtain ⟨k, hk, rfl, rv', S', gs, hat, hu, hon, hfit, hflat, hsv, hpv, hnes, hnep, hlb, hgl, hfl⟩ := hrel
      have HAT := Lib.hid hat
      have HU := Lib.hid hu
      have HON := Lib.hid hon
      have HFIT := Lib.hid hfit
      have HFL := Lib.hid hflat
      have HSV := Lib.hid hsv
      have HPV := Lib.hid hpv
      have HNES := Lib.hid hnes
      have HNEP := Lib.hid hnep
      have HLB := Lib.hid hlb
      have HGL := Lib.hid hgl
      have HFLL := Lib.hid hfl
      clear hat hu hon hfit hflat hsv hpv hnes hnep hlb hgl hfl
      by_cases hlt : k < l.length
      · obtain ⟨b, off, vk, rfl, hbw, hcell, hvk⟩ := HC.out k hlt
        have hcell' := (HAT.out.below.cell (p := ⟨b, off + k, none⟩) hbw).trans hcell
        have hsk := HS.out l[k] (List.getElem_mem hlt)
        have HTK := Lib.hid (show (l.take (k + 1)).flatten = (l.take k).flatten ++ l[k] by rw [List.take_succ_eq_append_getElem hlt, List.flatten_append]; simp)
        generalize l[k] = s at *
        have HVK := Lib.hid hvk
        have HSS := Lib.hid hsk.2
        have hsl := hsk.1
        have HBW := Lib.hid hbw
        have HCELL := Lib.hid hcell
        clear hvk hsk hcell hbw
        go_wp2_with fail
        refine (short_any 20 400 s _ _ (HVK.out.later HAT.out.below) hsl (by decide) (by decide) HSS.out).mono ?_
        rintro e w5 ⟨rfl, hb5⟩
        have HAT5 := Lib.hid (HAT.out.later hb5)
        have HSV5 := Lib.hid (HSV.out.later hb5)
        clear hb5 hcell'
        cases hsh : shortB 20 400 s
        · clear hsh
          go_wp2_with fail
          refine (alive6_any _).mono ?_
          rintro e w6 ⟨rfl, hb6⟩
          have HB6 := Lib.hid (HAT5.out.later hb6).below
          clear hb6
          go_wp2
          go_ret
          exact ⟨rfl, HB6.out⟩
        · have HF := Lib.hid (few_of (few := 20) (room := 400) hsh)
          clear hsh
          have hb5d : Below w5.heap.size w5 w5.drew := below_of_drew w5
          obtain ⟨x1, n1, c1, w17, x2, n2, c2, w18, hr1, hr2, hj, hb18, hbw17⟩ := join_texts2 w5.drew _ _ (l.take k).flatten s (HSV5.out.later hb5d).strs ((HAT5.out.later hb5d).now rfl HVK.out) (by have := HFLL.out; have := HF.out.len; have := HLN.out; omega)
          have hb518 : Below w5.heap.size w5 w18 := hb5d.trans hb18
          have HR1 := Lib.hid hr1
          have HR2 := Lib.hid hr2
          have HJ := Lib.hid (World.ownsRow.mono hj HAT5.out.size)
          have HJN := Lib.hid (show ∀ q, (Value.slice x2 n2 c2).ownBlock = some q → rv'.ownBlock ≠ some q from fun q hq hr => by
            have h1 := (Texts.lt hj q hq).1
            have h2 := (HAT5.out.log.row q hr).2
            have h1 : w5.heap.size ≤ q := h1
            omega)
          have HAT18 := Lib.hid (HAT5.out.later hb518)
          have HSV18 := Lib.hid (HSV5.out.later hb518)
          have d1 := (HAT5.out.below.cell (p := ⟨b, off + k, none⟩) HBW.out).trans HCELL.out
          have d2 : w17.cell? ⟨b, off + k, none⟩ = some vk := cell_later (show w5.drew.cell? ⟨b, off + k, none⟩ = some vk from d1) hbw17
          have d3 := (HAT18.out.below.cell (p := ⟨b, off + k, none⟩) HBW.out).trans HCELL.out
          clear hr1 hr2 hj hb18 hb518 hbw17
          go_wp2_with fail
          go_region_held3 (fun w' => w'.cell? ⟨b, off + k, none⟩ = some vk) (first | exact d1 | exact d2 | exact d3) (first
            | (refine step_append_run (by rfl) _ _ _ (by rfl) _ _ _ _ (by rfl) (by rfl) HR1.out ?_)
            | (refine step_append_run (by rfl) _ _ _ (by rfl) _ _ _ _ (by rfl) (by rfl) HR2.out ?_))
          have HS18 := Lib.hid (whole_small (by have := HLN.out; omega) HFL.out HFLL.out HGL.out HLB.out)
          clear d1 d2 HR1 HR2
          by_cases hs0 : s = []
          · subst hs0
            go_wp2_with fail
            refine (commit_none_any HAT18.out HU.out.ok HS18.out _ (HAT18.out.now rfl HVK.out) (fun W rv'' hk => HAT18.out.older rfl HVK.out hk)).mono ?_
            rintro e w19 ⟨rv9, rfl, ha9, hkp9⟩
            have HREL := Lib.hid (show WholeRel w0 w0.heap.size d m g l (k + 1) (.slice x2 n2 c2) (.slice x2 n2 c2) w19 from
              ⟨rv9, S', gs, ha9, HU.out, HON.out, HFIT.out, by rw [HTK.out, List.append_nil]; exact HFL.out, by rw [HTK.out]; exact Texts.keeps HJ.out HAT18.out HJN.out hkp9, by rw [HTK.out]; exact Texts.keeps HJ.out HAT18.out HJN.out hkp9,
                hkp9.apart (fun q hq => (Texts.lt HJ.out q hq).2) HJN.out, hkp9.apart (fun q hq => (Texts.lt HJ.out q hq).2) HJN.out, by have := HLB.out; omega, by have := HGL.out; omega, by rw [HTK.out, List.append_nil]; have := HFLL.out; omega⟩)
            clear ha9 hkp9 d3
            go_wp2
            go_roundw
            case rel => exact ⟨k + 1, by omega, by go_num, HREL.out⟩
            case measure => simp [intOf]; omega
          · have HB592 := Lib.hid (HF.out.bytes (few := 20) (room := 400) (by decide))
            have HFT := Lib.hid (HF.out.fits (few := 20) (room := 400) (by decide) (by decide))
            have HS0 := Lib.hid hs0
            clear hs0
            go_wp2_with fail
            refine (commit_fuse_any HAT18.out HU.out HON.out HS18.out s _ (HAT18.out.now rfl HVK.out) (fun W rv'' hk => HAT18.out.older rfl HVK.out hk) HFT.out HS0.out (by rw [bytesOf_size]; have := HB592.out; have := HLB.out; have := HLN.out; omega)).mono ?_
            rintro e w19 ⟨rv9, S9, hkp9, ⟨rfl, ha9, hu9, hon9, -⟩ | ⟨rfl, ha9, hu9, -⟩⟩
            · have HREL := Lib.hid (show WholeRel w0 w0.heap.size d m g l (k + 1) (.slice x2 n2 c2) (.slice x2 n2 c2) w19 from
                ⟨rv9, S9, gs ++ [raw s], by rw [← logOf_snoc]; exact ha9, by rw [bytesOf_snoc, logBytes_snoc, List.length_append]; rw [bytesOf_size] at hu9; exact hu9, hon9, fits_snoc HFIT.out HFT.out, by rw [HTK.out, List.flatten_append, HFL.out]; simp [raw], by rw [HTK.out]; exact Texts.keeps HJ.out HAT18.out HJN.out hkp9, by rw [HTK.out]; exact Texts.keeps HJ.out HAT18.out HJN.out hkp9,
                  hkp9.apart (fun q hq => (Texts.lt HJ.out q hq).2) HJN.out, hkp9.apart (fun q hq => (Texts.lt HJ.out q hq).2) HJN.out, by rw [logBytes_snoc, List.length_append]; have := HLB.out; have := HB592.out; omega, by rw [List.length_append, List.length_singleton]; have := HGL.out; omega, by rw [HTK.out, List.length_append]; have := HFLL.out; have := HF.out.len; omega⟩)
              clear ha9 hu9 hon9 hkp9 d3
              go_wp2
              go_roundw
              case rel => exact ⟨k + 1, by omega, by go_num, HREL.out⟩
              case measure => simp [intOf]; omega
            · have HEND := Lib.hid (show WholeEnd w0 w0.heap.size d m g u10 (.slice x2 n2 c2) w19 from
                ⟨rv9, S9, _, gs, groupBytes (raw s), (l.take k).flatten, (l.take k).flatten ++ s, ha9, hu9, HFL.out, by rw [← HFL.out, show raw ((l.take k).flatten ++ s) = gs.flatten ++ raw s by rw [HFL.out]; exact List.map_append ..]; exact tells_one HFIT.out HFT.out,
                  Texts.keeps HSV18.out HAT18.out HNES.out hkp9, Texts.keeps HJ.out HAT18.out HJN.out hkp9, hkp9.apart (fun q hq => (Texts.lt HSV18.out q hq).2) HNES.out, hkp9.apart (fun q hq => (Texts.lt HJ.out q hq).2) HJN.out, by have := HLB.out; have := HLN.out; omega, HB592.out, by have := HGL.out; have := HLN.out; omega, by have := HFLL.out; have := HLN.out; omega, by rw [List.length_append]; have := HFLL.out; have := HF.out.len; have := HLN.out; omega⟩)
              clear ha9 hu9 hkp9 d3
              go_wp2
              go_meet
              exact HEND.out
      · have hkl : k = l.length := by omega
        subst hkl
        have HEND := Lib.hid (show WholeEnd w0 w0.heap.size d m g u10 u11 wr from
          ⟨rv', S', _, gs, [], (l.take l.length).flatten, (l.take l.length).flatten, HAT.out, by rw [show (⟨([] : List UInt8).toArray⟩ : ByteArray) = ByteArray.empty from rfl, ByteArray.append_empty]; exact HU.out, HFL.out, by rw [← HFL.out]; exact tells_all HFIT.out _, HSV.out, HPV.out, HNES.out, HNEP.out,
            by have := HLB.out; have := HLN.out; omega, Nat.zero_le _, by have := HGL.out; have := HLN.out; omega, by have := HFLL.out; have := HLN.out; omega, by have := HFLL.out; have := HLN.out; omega⟩)
        clear hlt hk
        go_wp2
        go_meet
        exact HEND.out

end Go.Proofs.YtncpeaamfmfcgaaGreat
