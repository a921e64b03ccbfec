/- complinelaw6.alive. -/
import Derived.Test.YtncpeaamfmfcgaaGreatWalCalls
namespace Go.Proofs.YtncpeaamfmfcgaaGreat
open Go.RowKit Go.Proofs.YtncpeaamfmfcgaaGreat.Sum

theorem group_small (l : List (List UInt8)) (n : Nat) (h : (l.map fun s => s.length + 9).sum ≤ n) (hl : l.length ≤ 400000) : (groupBytes l).length ≤ n + 12 := by
  rw [groupBytes_len]
  have := varint_short (2 * l.length) (by omega)
  omega
theorem logBytes_nil : (logBytes []).length = 0 := rfl
theorem logBytes_one (g : List (List UInt8)) : logBytes [g] = groupBytes g := by
  have := logBytes_snoc [] g
  rw [List.nil_append] at this
  rw [this]; rfl

/-- The texts of a literal, in a block of their own. -/
theorem lit_keeps {d m g : Nat} {rv rv' : Value} {w W : World} (l : List ByteArray) (e : TypeId) (hd : d < w.heap.size) (hm : m < w.heap.size) (hg : g < w.heap.size) (hr : ∀ k, rv.ownBlock = some k → k < w.heap.size)
    (hk : Keeps d m g rv rv' (w.alloc (.cells (l.map Value.string).toArray e)) W) : Strs W (.slice (some ⟨w.heap.size, 0, none⟩) l.length l.length) l :=
  strs_keeps rfl (strs_lit w l e) (by simp) (by omega) (by omega) (by omega) (fun q => by have := hr _ q; omega) hk

set_option maxHeartbeats 4000000 in
set_option maxRecDepth 100000 in
theorem alive6_any (w0 : World) : Calls Tryz.prog 11 #[] w0 fun e w' => e = .returned (.bool true) ∧ Below w0.heap.size w0 w' := by
  have hvx : validB ⟨#[120]⟩ = true := by decide
  have h1 : Fits (raw [⟨#[97]⟩, ⟨#[98]⟩]) := ⟨by decide, by decide⟩
  have h2 : Fits (raw [⟨#[99]⟩]) := ⟨by decide, by decide⟩
  have b1 := group_small (raw [⟨#[97]⟩, ⟨#[98]⟩]) 20 (by decide) (by decide)
  have b2 := group_small (raw [⟨#[99]⟩]) 10 (by decide) (by decide)
  have HF1 := Lib.hid h1
  have HF2 := Lib.hid h2
  have HB1 := Lib.hid b1
  have HB2 := Lib.hid b2
  have HVX := Lib.hid hvx
  clear h1 h2 b1 b2 hvx
  go_enter Tryz.func11, Tryz.ntmps11
  go_wp2_with fail
  refine (new_ex _).mono ?_
  rintro e w1 ⟨d, m, hd, hm, rfl, hd1, hb1⟩
  have HD1 := Lib.hid hd1
  have HBL := Lib.hid hb1
  clear hd1 hb1
  go_wp2_with fail
  refine (live_fresh HBL.out.size HBL.out hd hm HD1.out ⟨#[120]⟩ HVX.out).mono ?_
  rintro e w2 ⟨g, rv, S, rfl, hlive⟩
  have HL2 := Lib.hid hlive
  clear hlive
  go_wp2_with fail
  have HL3 := Lib.hid (HL2.out.later (below_alloc (Below.refl _ w2) (.cells ([⟨#[97]⟩, ⟨#[98]⟩].map Value.string).toArray 9)))
  refine (live_commit HL3.out [⟨#[97]⟩, ⟨#[98]⟩] _ (strs_lit _ _ _) (fun W rv' hk => lit_keeps _ _ HL2.out.here.lts.1 HL2.out.here.lts.2.1 HL2.out.here.lts.2.2.1 HL2.out.here.lts.2.2.2 hk) HF1.out (by rw [logBytes_nil]; have := HB1.out; omega) (by decide)).mono ?_
  rintro e w3 ⟨rv3, S3, rfl, hlive, -⟩
  have HL4 := Lib.hid (show Live w0 w0.heap.size w3 d m g rv3 S3 ⟨#[120]⟩ [raw [⟨#[97]⟩, ⟨#[98]⟩]] from hlive)
  clear hlive
  go_wp2_with fail
  have HL5 := Lib.hid (HL4.out.later (below_alloc (Below.refl _ w3) (.cells ([⟨#[99]⟩].map Value.string).toArray 9)))
  refine (live_commit HL5.out [⟨#[99]⟩] _ (strs_lit _ _ _) (fun W rv' hk => lit_keeps _ _ HL4.out.here.lts.1 HL4.out.here.lts.2.1 HL4.out.here.lts.2.2.1 HL4.out.here.lts.2.2.2 hk) HF2.out (by rw [logBytes_one]; have := HB1.out; have := HB2.out; omega) (by decide)).mono ?_
  rintro e w4 ⟨rv4, S4, rfl, hlive, -⟩
  have HL6 := Lib.hid (show Live w0 w0.heap.size w4 d m g rv4 S4 ⟨#[120]⟩ [raw [⟨#[97]⟩, ⟨#[98]⟩], raw [⟨#[99]⟩]] from hlive)
  clear hlive
  go_wp2_with fail
  refine (live_reopen HL6.out HVX.out (by decide) (by rw [show [raw [⟨#[97]⟩, ⟨#[98]⟩], raw [⟨#[99]⟩]] = [raw [⟨#[97]⟩, ⟨#[98]⟩]] ++ [raw [⟨#[99]⟩]] from rfl, logBytes_snoc, logBytes_one, List.length_append]; have := HB1.out; have := HB2.out; omega)).mono ?_
  rintro e w5 ⟨g5, rv5, S5, rfl, hlive, ho5, -, -⟩
  have HL7 := Lib.hid hlive
  have HX := Lib.hid (HL6.out.here.log.only HL6.out.here.disk ho5)
  clear hlive ho5
  go_wp2_with fail
  refine (live_records HL7.out).mono ?_
  rintro e w6 ⟨v, recs, rfl, hr, ht, hb6⟩
  have hrr : recs = [⟨#[97]⟩, ⟨#[98]⟩, ⟨#[99]⟩] := raw_inj hr
  subst hrr
  have HL8 := Lib.hid (HL7.out.later hb6)
  have HX8 := Lib.hid (HX.out.later hb6)
  rcases ht.strs.cases with ⟨h0, -⟩ | ⟨b, off, cap, hv, -, -, hc⟩
  · exact absurd h0 (by simp)
  subst hv
  have c0 : w6.cell? ⟨b, off, none⟩ = some (.string ⟨#[97]⟩) := hc 0 (by decide)
  have c2 : w6.cell? ⟨b, off + 2, none⟩ = some (.string ⟨#[99]⟩) := hc 2 (by decide)
  have HBB := Lib.hid (HL8.out.here.below)
  clear hc ht hr hb6
  go_wp2_with (first
    | (go_at_call 15; refine (live_groups HL8.out).mono ?_; rintro e w7 ⟨rfl, rfl⟩)
    | (go_at_call 16; refine (live_size HL8.out).mono ?_; rintro e w7 ⟨rfl, rfl⟩)
    | (go_at_call 16; refine (size_log _ HX8.out).mono ?_; rintro e w7 ⟨rfl, rfl⟩))
  go_ret
  exact ⟨by simp [logOf], HBB.out⟩

end Go.Proofs.YtncpeaamfmfcgaaGreat
