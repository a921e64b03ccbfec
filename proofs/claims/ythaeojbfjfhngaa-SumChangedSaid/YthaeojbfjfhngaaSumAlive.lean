/- complinelaw4.alive answers true. -/
import Derived.Test.YthaeojbfjfhngaaSumScan
import Derived.Test.YthaeojbfjfhngaaBook
namespace Go.Proofs.Ythaeojbfjfhngaa
open Go.RowKit Go.Proofs.Ythaeojbfjfhngaa.Sum

theorem crc_12 : ((4294967295 - crcOf 4294967295 [⟨#[49, 50, 51, 52, 53]⟩, ⟨#[54, 55, 56, 57]⟩] : Nat) : Int) = 3421780262 := by decide +kernel

theorem frames_empty : (⟨(frames (raw [⟨#[]⟩])).toArray⟩ : ByteArray) = ⟨#[0, 0, 0, 0, 0, 0, 0, 0]⟩ := by
  have h : crc [] = 0 := by unfold crc crcRun; rfl
  simp only [raw, List.map_cons, List.map_nil, frames, frame, List.length_nil, h, List.append_nil]
  unfold four
  decide +kernel

theorem add_x (l : List UInt8) : ((⟨l.toArray⟩ : ByteArray) ++ ⟨#[120]⟩).data.toList = l ++ [120] := by
  rw [show (⟨#[120]⟩ : ByteArray) = ⟨[(120 : UInt8)].toArray⟩ from rfl, ByteArray.mk_append_mk]

theorem scan_a : scan (frames (raw [⟨#[97]⟩]) ++ [120]) = ([[97]], 9) := by
  rw [scan_frames _ _ (by intro s hs; simp [raw] at hs; subst hs; simp), scan_short _ (by simp)]
  simp [raw, frames, frame_length]

set_option maxHeartbeats 400000 in
theorem alive_any (w : World) : Calls Try.prog 8 #[] w fun e w' => e = .returned (.bool true) ∧ Below w.heap.size w w' := by
  go_enter Try.func8, Try.ntmps8
  go_wp2_with fail
  refine (frame_any [⟨#[97]⟩] _ _ (strs_lit w [⟨#[97]⟩] _) (by simp) (by intro s hs; simp at hs; subst hs; decide) (by simp [raw, frames, frame_length])).mono ?_
  rintro e w1 ⟨rfl, hb1⟩
  have hfl : (frames (raw [⟨#[97]⟩])).length = 9 := by simp [raw, frames, frame_length]
  have HS := Lib.hid scan_a
  generalize frames (raw [⟨#[97]⟩]) = f at *
  go_wp2_with fail
  refine (scan_of _ [[97]] 9 w1 (by rw [ByteArray.size_append', ByteArray.size_mk', List.size_toArray, hfl]; decide) (by rw [add_x]; exact HS.out)).mono ?_
  rintro e w2 ⟨v, rfl, hb2, l, hl, hv⟩
  obtain rfl : l = [⟨#[97]⟩] := raw_inj hl
  obtain ⟨b, off, cap, rfl, hc⟩ : ∃ b off cap, v = .slice (some ⟨b, off, none⟩) 1 cap ∧ w2.cell? ⟨b, off, none⟩ = some (.string ⟨#[97]⟩) ∧ b < w2.heap.size := by
    rcases hv.cases with ⟨h, _⟩ | ⟨b, off, cap, rfl, _, hb, h⟩
    · cases h
    · exact ⟨b, off, cap, rfl, h 0 (by simp), hb.1⟩
  clear hv hl
  obtain ⟨hc, hbs⟩ := hc
  go_wp2_with fail
  refine (crc_any [⟨#[49, 50, 51, 52, 53]⟩, ⟨#[54, 55, 56, 57]⟩] _ _ (strs_lit w2 [⟨#[49, 50, 51, 52, 53]⟩, ⟨#[54, 55, 56, 57]⟩] _) (by simp) (by intro s hs; simp at hs; rcases hs with rfl | rfl <;> decide)).mono ?_
  rintro e w3 ⟨rfl, rfl⟩
  rw [crc_12]
  go_wp2_with fail
  refine (frame_any [⟨#[]⟩] _ _ (strs_at _ [⟨#[]⟩] _ _ (by simp)) (by simp) (by intro s hs; simp at hs; subst hs; decide) (by simp [raw, frames, frame_length])).mono ?_
  rintro e w4 ⟨rfl, hb4⟩
  rw [frames_empty]
  have hc4 := (hb4.cell (p := ⟨b, off, none⟩) (by simp; omega)).trans ((World.cell?_alloc_lt _ _ _ (by simp; omega)).trans ((World.cell?_alloc_lt _ _ _ hbs).trans hc))
  go_wp2
  go_ret
  exact ⟨rfl, below_step (below_alloc (below_alloc (below_step (below_step (below_alloc (Below.refl _ w) _) hb1) hb2) _) _) hb4⟩

end Go.Proofs.Ythaeojbfjfhngaa
