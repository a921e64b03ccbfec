/- complinelaw7.alive. -/
import Derived.Test.YtncpeaamfmfcgaaGreatSnapLive
namespace Go.Proofs.YtncpeaamfmfcgaaGreat
open Go.RowKit Go.Proofs.YtncpeaamfmfcgaaGreat.Sum

theorem layBA_small {s : ByteArray} (h : s.size ≤ 60000) : (layBA s).size ≤ s.size + 26 := by
  rw [layBA_size, Lib.size_eq]
  exact layB_small (by rw [← Lib.size_eq]; exact h)

set_option maxHeartbeats 4000000 in
set_option maxRecDepth 100000 in
theorem alive7_any (w0 : World) : Calls Tryz.prog 29 #[] w0 fun e w' => e = .returned (.bool true) ∧ Below w0.heap.size w0 w' := by
  have h1 : Fits (raw [⟨#[97]⟩]) := ⟨by decide, by decide⟩
  have h2 : Fits (raw [⟨#[98]⟩]) := ⟨by decide, by decide⟩
  have b1 := group_small (raw [⟨#[97]⟩]) 10 (by decide) (by decide)
  have b2 := group_small (raw [⟨#[98]⟩]) 10 (by decide) (by decide)
  have HF1 := Lib.hid h1
  have HF2 := Lib.hid h2
  have HB1 := Lib.hid b1
  have HB2 := Lib.hid b2
  have HDX := Lib.hid (show 1 ≤ (⟨#[120]⟩ : ByteArray).size ∧ (⟨#[120]⟩ : ByteArray).size ≤ 20 by decide)
  have HP0 := Lib.hid (layBA_small (s := ⟨#[]⟩) (by decide))
  have HP1 := Lib.hid (layBA_small (s := ⟨#[65]⟩) (by decide))
  have e0 : (⟨#[]⟩ : ByteArray).size = 0 := rfl
  have e1 : (⟨#[65]⟩ : ByteArray).size = 1 := rfl
  have HE0 := Lib.hid e0
  have HE1 := Lib.hid e1
  clear h1 h2 b1 b2 e0 e1
  go_enter Tryz.func29, Tryz.ntmps29
  go_wp2_with fail
  refine (new_ex _).mono ?_
  rintro e w1 ⟨d, m, hd, hm, rfl, hd1, hb1⟩
  have HA1 := Lib.hid (show DAt w0 w0.heap.size w1 d m St.new from ⟨hb1, hb1.size, hd, hm, hd1⟩)
  clear hd1 hb1 hd hm
  go_wp2_with fail
  refine (slive_new HA1.out HDX.out).mono ?_
  rintro e w2 ⟨t, g, rv, S, rfl, hl, -⟩
  have HL2 := Lib.hid hl
  have HR2 := Lib.hid (show sizeAll S.files ≤ 26 by have h := hl.kept.room; have h1 := HP0.out; have h2 := HE0.out; rw [logBytes_nil] at h; omega)
  clear hl
  go_wp2_with fail
  have HL3 := Lib.hid (HL2.out.later (below_alloc (Below.refl _ w2) (.cells ([⟨#[97]⟩].map Value.string).toArray 9)))
  refine (slive_commit HL3.out [⟨#[97]⟩] _ (strs_lit _ _ _) (fun W rv' hk => lit_keeps _ _ HL2.out.at'.here.lts.1 HL2.out.at'.here.lts.2.1 HL2.out.at'.here.lts.2.2.1 HL2.out.at'.here.lts.2.2.2 hk) HF1.out (by simp) (by have := HR2.out; have := HB1.out; omega) (by decide)).mono ?_
  rintro e w3 ⟨rv3, S3, rfl, hl, -⟩
  have HL4 := Lib.hid hl
  have HR4 := Lib.hid (show sizeAll S3.files ≤ 48 by
    have h := hl.kept.room
    have h1 := HP0.out
    have h2 := HE0.out
    have h3 := HB1.out
    rw [logBytes_snoc, List.length_append, logBytes_nil] at h
    omega)
  clear hl
  go_wp2_with fail
  refine (slive_save HL4.out (by decide) (by decide) ⟨#[65]⟩ (by decide) (by have h1 := HP1.out; have h2 := HE1.out; have := HR4.out; omega)).mono ?_
  rintro e w4 ⟨g4, rv4, S4, rfl, hl, -⟩
  have HL5 := Lib.hid hl
  have HR5 := Lib.hid (show sizeAll S4.files ≤ 27 by have h := hl.kept.room; have h1 := HP1.out; have h2 := HE1.out; rw [logBytes_nil] at h; omega)
  clear hl
  go_wp2_with fail
  have HL6 := Lib.hid (HL5.out.later (below_alloc (Below.refl _ w4) (.cells ([⟨#[98]⟩].map Value.string).toArray 9)))
  refine (slive_commit HL6.out [⟨#[98]⟩] _ (strs_lit _ _ _) (fun W rv' hk => lit_keeps _ _ HL5.out.at'.here.lts.1 HL5.out.at'.here.lts.2.1 HL5.out.at'.here.lts.2.2.1 HL5.out.at'.here.lts.2.2.2 hk) HF2.out (by simp) (by have := HR5.out; have := HB2.out; omega) (by decide)).mono ?_
  rintro e w5 ⟨rv5, S5, rfl, hl, -⟩
  have HL7 := Lib.hid hl
  have HR7 := Lib.hid (show sizeAll S5.files + (logBytes ([] ++ [raw [⟨#[98]⟩]])).length ≤ 400000 by
    have h := hl.kept.room
    have h1 := HP1.out
    have h2 := HE1.out
    have h3 := HB2.out
    rw [logBytes_snoc, List.length_append, logBytes_nil] at h ⊢
    omega)
  clear hl
  go_wp2_with fail
  refine (slive_open HL7.out.at'.dat HL7.out.kept HL7.out.calm HDX.out (by decide) (by decide) HR7.out HL7.out.few).mono ?_
  rintro e w6 ⟨t6, g6, rv6, S6, rfl, hl, -⟩
  have HL8 := Lib.hid hl
  clear hl
  go_wp2_with fail
  refine (sbase_any _ HL8.out.at'.st).mono ?_
  rintro e w7 ⟨rfl, rfl⟩
  rw [if_neg (by decide), decide_eq_false (by decide)]
  have c0 := HL8.out.at'.st.facts.1
  go_wp2_with fail
  refine (records_any _ HL8.out.at'.here.log HL8.out.few.1).mono ?_
  rintro e w8 ⟨v, recs, rfl, hr, ht, hb8⟩
  have hrr : recs = [⟨#[98]⟩] := raw_inj hr
  subst hrr
  have HL9 := Lib.hid (HL8.out.later hb8)
  rcases ht.strs.cases with ⟨h0, -⟩ | ⟨b, off, cap, hv, -, -, hc⟩
  · exact absurd h0 (by simp)
  subst hv
  have cc : w8.cell? ⟨b, off, none⟩ = some (.string ⟨#[98]⟩) := hc 0 (by decide)
  clear hc ht hr hb8 c0
  go_wp2_with fail
  refine (sround_any _ HL9.out.at'.st).mono ?_
  rintro e w9 ⟨rfl, rfl⟩
  go_wp2
  go_ret
  exact ⟨rfl, HL9.out.at'.here.below⟩

end Go.Proofs.YtncpeaamfmfcgaaGreat
