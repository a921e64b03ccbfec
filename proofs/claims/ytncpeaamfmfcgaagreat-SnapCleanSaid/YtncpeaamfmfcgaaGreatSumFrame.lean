/- sum.Frame lays the frames of all of its texts, one behind the other. -/
import Derived.Test.YtncpeaamfmfcgaaGreatSumCrc
import Derived.Test.YtncpeaamfmfcgaaGreatSumNum
import Derived.Test.YtncpeaamfmfcgaaGreatBuilder
import Derived.Test.YtncpeaamfmfcgaaGreatShelf
namespace Go.Proofs.YtncpeaamfmfcgaaGreat
open Go.RowKit Go.Proofs.YtncpeaamfmfcgaaGreat.Sum

def raw (l : List ByteArray) : List (List UInt8) := l.map (fun s => s.data.toList)

theorem strs_one (w : World) (s : ByteArray) (e : TypeId) : Strs (w.alloc (.cells #[.string s] e)) (.slice (some ⟨w.heap.size, 0, none⟩) 1 1) [s] := by
  refine Strs.of (l := [s]) (by simp) (Nat.le_refl _) fun k hk => ?_
  obtain rfl : k = 0 := by simp at hk; omega
  simp

theorem strs_at (w : World) (l : List ByteArray) (e : TypeId) (n : Nat) (hn : n = w.heap.size) : Strs (w.alloc (.cells (l.map Value.string).toArray e)) (.slice (some ⟨n, 0, none⟩) l.length l.length) l := by
  subst hn
  refine Strs.of (by simp) (Nat.le_refl _) fun k hk => ?_
  rw [World.cell?_alloc_at _ _ _ _ rfl]
  simp [List.getElem?_eq_getElem hk]

theorem strs_lit (w : World) (l : List ByteArray) (e : TypeId) : Strs (w.alloc (.cells (l.map Value.string).toArray e)) (.slice (some ⟨w.heap.size, 0, none⟩) l.length l.length) l := strs_at w l e _ rfl

theorem raw_inj {l m : List ByteArray} (h : raw l = raw m) : l = m := by
  induction l generalizing m with
  | nil => cases m with
    | nil => rfl
    | cons t m => cases h
  | cons s l ih => cases m with
    | nil => cases h
    | cons t m =>
      simp only [raw, List.map_cons, List.cons.injEq] at h
      rw [ih h.2, ByteArray.ext (Array.toList_inj.1 h.1)]

theorem crcOf_one (s : ByteArray) : ((4294967295 - crcOf 4294967295 [s] : Nat) : Int) = (crc s.data.toList : Nat) := by
  unfold crc; rfl

theorem frame_bytes (s : ByteArray) : (({ data := (four s.size).toArray } : ByteArray) ++ { data := (four (crc s.data.toList)).toArray } ++ s) = ⟨(frame s.data.toList).toArray⟩ := by
  have hs : s = ⟨s.data.toList.toArray⟩ := by rw [Array.toArray_toList]
  conv => lhs; rw [hs]
  rw [ByteArray.mk_append_mk, ByteArray.mk_append_mk]
  unfold frame
  rw [Lib.size_eq]

theorem raw_take (l : List ByteArray) (k : Nat) (h : k < l.length) : raw (l.take (k + 1)) = raw (l.take k) ++ [l[k].data.toList] := by
  unfold raw; rw [List.take_succ_eq_append_getElem h, List.map_append]; rfl

theorem frames_one (s : List UInt8) : frames [s] = frame s := by simp [frames]

theorem take_frames (l : List ByteArray) (k : Nat) (h : k < l.length) : (frames (raw (l.take k))).length + (frame l[k].data.toList).length ≤ (frames (raw l)).length := by
  have e : raw l = raw (l.take (k + 1)) ++ raw (l.drop (k + 1)) := by unfold raw; rw [← List.map_append, List.take_append_drop]
  rw [e, frames_append, raw_take l k h, frames_append, frames_one]
  simp only [List.length_append]; omega

theorem byteCells_append (a b : List UInt8) : Lib.byteCells (a ++ b) = Lib.byteCells a ++ Lib.byteCells b := by simp [Lib.byteCells]
theorem strCells_mk (a : List UInt8) : Lib.strCells ⟨a.toArray⟩ = Lib.byteCells a := rfl

set_option maxHeartbeats 2000000 in
theorem frame_any (l : List ByteArray) (v : Value) (w : World) (hv : Strs w v l) (hl : l.length ≤ 9223372036854775807) (hs : ∀ s ∈ l, s.size < 4294967296) (hf : (frames (raw l)).length ≤ 140737488355328) :
    Calls Tryz.prog 69 #[v] w fun e w' => e = .returned (.string ⟨(frames (raw l)).toArray⟩) ∧ Below w.heap.size w w' := by
  obtain ⟨a, cap, rfl, hk⟩ := hv.shape
  have HV := Lib.hid hk
  have HS := Lib.hid hs
  have HF := Lib.hid hf
  clear hv hs hf hk
  have hw0 : w.heap.size < (w.alloc (.cells #[.pointer none, .slice none 0 0] 115)).heap.size := by simp
  go_enter Tryz.func69, Tryz.ntmps69
  go_wp2
  go_loopw [8] (fun i wr => ∃ k : Nat, k ≤ l.length ∧ i = .int .i64 k ∧ Lib.IsBuilder 115 5 w.heap.size w.heap.size (Lib.byteCells (frames (raw (l.take k)))) wr ∧ Below w.heap.size w wr) (fun i _ => l.length - (intOf i).toNat)
  case atStart => exact ⟨0, Nat.zero_le _, rfl, Lib.fresh_isBuilder _ _ _, (Below.refl _ _).alloc (Nat.le_refl _) _⟩
  case round =>
    obtain ⟨k, hk, rfl, hB, hbl⟩ := hrel
    by_cases hlt : k < l.length
    · obtain ⟨b, off, rfl, hbw, hcell⟩ := HV.out k hlt
      have hcell' := (hbl.cell (p := ⟨b, off + k, none⟩) hbw).trans hcell
      have hss := HS.out l[k] (List.getElem_mem hlt)
      generalize hsk : l[k] = s at *
      have HK := Lib.hid hsk
      have HB := Lib.hid hB
      have HL := Lib.hid hbl
      clear hsk hcell hB hbl
      go_wp2_with fail
      refine (four_any s.size _ hss).mono ?_
      rintro e w1 ⟨rfl, hb1⟩
      go_wp2_with fail
      refine (crc_any [s] _ _ (strs_one _ s _) (by simp) (by simp; omega)).mono ?_
      rintro e w2 ⟨rfl, rfl⟩
      rw [crcOf_one]
      go_wp2_with fail
      refine (four_any (crc s.data.toList) _ (crc_lt _)).mono ?_
      rintro e w3 ⟨rfl, hb3⟩
      have HT := Lib.hid (Lib.size_eq s)
      go_wp2_with fail
      rw [frame_bytes]
      have hb13 : Below wr.heap.size wr w3 := below_step (below_alloc hb1 _) hb3
      have hB3 := builder_later HB.out hb13
      have hsz := HL.out.size
      have hsz3 := hb13.size
      have htk := take_frames l k hlt
      rw [HK.out] at htk
      have hbd := HF.out
      refine (builder_write w.heap.size w.heap.size _ ⟨(frame s.data.toList).toArray⟩ w3 hB3 (by rw [Lib.byteCells_length]; show _ + (frame s.data.toList).toArray.size ≤ _; rw [List.size_toArray]; omega) (by omega)).mono ?_
      rintro e w4 ⟨rfl, hB4, hb4⟩
      clear hB3 hsz hsz3 htk hbd
      have HB4 := Lib.hid hB4
      have HL4 := Lib.hid ((HL.out.trans (hb13.mono HL.out.size)).trans hb4)
      clear hB4 hb4 hb13 hb1 hb3
      go_wp2
      go_roundw
      case rel => exact ⟨k + 1, by omega, by go_num, .inr (by rw [raw_take l k hlt, HK.out, frames_append, frames_one]; have := HB4.out; rwa [strCells_mk, ← byteCells_append] at this), HL4.out⟩
      case measure => simp [intOf]; omega
    · obtain rfl : k = l.length := by omega
      rw [List.take_length] at hB
      have hsz := hbl.size
      go_wp2_with fail
      refine (Tryz.Builder_String_any w.heap.size w.heap.size _ wr hB hsz).mono ?_
      rintro e w1 ⟨rfl, hb1⟩
      go_wp2
      go_ret
      exact ⟨rfl, hbl.trans hb1⟩

end Go.Proofs.YtncpeaamfmfcgaaGreat
