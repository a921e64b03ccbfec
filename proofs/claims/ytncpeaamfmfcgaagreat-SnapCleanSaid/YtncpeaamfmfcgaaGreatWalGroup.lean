/- wal.group lays a group: its records' frames and its marker's. -/
import Derived.Test.YtncpeaamfmfcgaaGreatWireRead
import Derived.Maps.AppendAt
namespace Go.Proofs.YtncpeaamfmfcgaaGreat
open Go.RowKit Go.Proofs.YtncpeaamfmfcgaaGreat.Sum

/-- The slice value v is the call's own (from block base on) and holds the texts l. -/
def Texts (w : World) (base : Nat) (v : Value) (l : List ByteArray) : Prop := w.ownsRow base 9 1 v l.length (l.map Value.string)
theorem Texts.strs {w : World} {base : Nat} {v : Value} {l : List ByteArray} (h : Texts w base v l) : Strs w v l := strs_of_own h
theorem Texts.nil (w : World) (base : Nat) : Texts w base (.slice none 0 0) [] := World.ownsRow_nil _ _ _ _
theorem Texts.grown {w w' : World} {base : Nat} {v : Value} {l : List ByteArray} (h : Texts w base v l) (hg : w.grownBy w' none) : Texts w' base v l := World.ownsRow.kept h hg (by cases v.ownBlock <;> simp)
theorem Texts.later {w w' : World} {base : Nat} {v : Value} {l : List ByteArray} (h : Texts w base v l) (hb : Below w.heap.size w w') : Texts w' base v l := h.grown (grown_of_below hb)

set_option maxRecDepth 100000 in
/-- A text more, behind the others: what the append does. -/
theorem push_text {w : World} {base : Nat} {u : Value} {xs : List ByteArray} (hown : Texts w base u xs) (s : ByteArray) (hn : xs.length + 1 ≤ 1000000000) (hbase : base ≤ w.heap.size) :
    ∃ ao n cap w', (Builtin.append_ #[22, 22] 22 #[u, .slice (some ⟨w.heap.size, 0, none⟩) 1 1]).run Tryz.prog (w.alloc (.cells #[.string s] 9)) = .ok (.slice ao n cap) w' ∧
      Texts w' base (.slice ao n cap) (xs ++ [s]) ∧ w.grownBy w' u.ownBlock ∧ ((Value.slice ao n cap).ownBlock = u.ownBlock ∨ (Value.slice ao n cap).ownBlock = some (w.heap.size + 1)) := by
  obtain ⟨i0, hi, hz0, hz1, hz2⟩ := info_parts infoString
  obtain ⟨u', w', h1, h2, h3, -, h5⟩ := run_append_own_at (P := Tryz.prog) (w.alloc (.cells #[.string s] 9)) base 22 22 9 i0 (.string ByteArray.empty) 1 16 Tryz.underlying22 hi hz0 hz1 hz2 rfl (by decide) u xs.length (xs.map Value.string) (World.ownsRow.alloc hown _) ⟨w.heap.size, 0, none⟩ 1 1 [.string s] rfl
    (cell_one_new _ _ _) (fun u hu => by obtain rfl := List.mem_singleton.1 hu; rfl) (by unfold maxLen; omega) (by omega) (by simp; omega)
  obtain ⟨ao, n, cap, rfl⟩ := own_slice h2
  refine ⟨ao, n, cap, w', h1, ?_, (World.grownBy.trans ?_ h3), ?_⟩
  · unfold Texts
    rw [List.length_append, List.map_append]
    exact h2
  · exact ⟨rfl, rfl, rfl, by simp, fun k hk _ => Go.heap_alloc_old _ _ hk⟩
  · simpa using h5

/-- What an append does not turn. -/
theorem Below.grownTexts {B : Nat} {a w w' : World} {u : Value} {xs : List ByteArray} (h : Below B a w) (hown : Texts w B u xs) (hg : w.grownBy w' u.ownBlock) (hB : B ≤ w.heap.size) : Below B a w' :=
  h.grown hg hB (fun k hk => (World.ownsRow.lt hown k hk).1)

def tagged (l : List ByteArray) : List ByteArray := l.map fun s => (⟨#[114]⟩ : ByteArray) ++ s
def marker (n : Nat) : ByteArray := (⟨#[99]⟩ : ByteArray) ++ ⟨(varint (2 * n)).toArray⟩
/-- A group's bytes. -/
def groupBytes (l : List (List UInt8)) : List UInt8 := frames (l.map (114 :: ·) ++ [99 :: varint (2 * l.length)])

theorem raw_tagged (l : List ByteArray) : raw (tagged l) = (raw l).map (114 :: ·) := by
  unfold raw tagged
  rw [List.map_map, List.map_map]
  refine List.map_congr_left fun s _ => ?_
  show ((⟨#[114]⟩ : ByteArray) ++ s).data.toList = _
  rw [ByteArray.data_append]; simp
theorem raw_group (l : List ByteArray) : frames (raw (tagged l ++ [marker l.length])) = groupBytes (raw l) := by
  unfold groupBytes
  rw [show raw (tagged l ++ [marker l.length]) = raw (tagged l) ++ raw [marker l.length] from List.map_append .., raw_tagged]
  have : raw [marker l.length] = [99 :: varint (2 * (raw l).length)] := by
    show [(marker l.length).data.toList] = _
    unfold marker
    rw [ByteArray.data_append, show (raw l).length = l.length from List.length_map ..]; simp
  rw [this]
theorem varint_ne (n : Nat) : varint n ≠ [] := by
  by_cases h : n < 128
  · rw [varint_small h]; simp
  · rw [varint_big h]; simp
theorem tagged_snoc (l : List ByteArray) (k : Nat) (h : k < l.length) : tagged (l.take k) ++ [(⟨#[114]⟩ : ByteArray) ++ l[k]] = tagged (l.take (k + 1)) := by
  unfold tagged
  rw [List.take_succ_eq_append_getElem h, List.map_append]; rfl
theorem tagged_length (l : List ByteArray) : (tagged l).length = l.length := List.length_map ..

set_option maxRecDepth 100000 in
set_option maxHeartbeats 4000000 in
theorem group_any (l : List ByteArray) (v : Value) (w : World) (hv : Strs w v l) (hl : l.length ≤ 1000000) (hs : ∀ s ∈ l, s.size < 4294967200) (hf : (groupBytes (raw l)).length ≤ 140737488355328) :
    Calls Tryz.prog 43 #[v] w fun e w' => e = .returned (.string ⟨(groupBytes (raw l)).toArray⟩) ∧ Below w.heap.size w w' := by
  obtain ⟨a, cap, rfl, hk⟩ := hv.shape
  have HV := Lib.hid hk
  have HS := Lib.hid hs
  have HF := Lib.hid hf
  clear hv hs hf hk
  go_enter Tryz.func43, Tryz.ntmps43
  go_wp2
  go_loopw [3, 11] (fun v3 iv wr => ∃ k : Nat, k ≤ l.length ∧ iv = .int .i64 (k : Int) ∧ Texts wr w.heap.size v3 (tagged (l.take k)) ∧ Below w.heap.size w wr) (fun _ iv _ => l.length - (intOf iv).toNat)
  case atStart => exact ⟨0, Nat.zero_le _, rfl, Texts.nil _ _, Below.refl _ _⟩
  case round =>
    obtain ⟨k, hk, rfl, ht, hb⟩ := hrel
    have HT := Lib.hid ht
    have HB := Lib.hid hb
    clear ht hb
    by_cases hlt : k < l.length
    · obtain ⟨b, off, rfl, hbw, hcell⟩ := HV.out k hlt
      have hcell' := (HB.out.cell (p := ⟨b, off + k, none⟩) hbw).trans hcell
      have hss := HS.out l[k] (List.getElem_mem hlt)
      generalize hsk : l[k] = s at *
      have HK := Lib.hid hsk
      obtain ⟨ao, n', cap', w', hrun, ht', hg', -⟩ := push_text HT.out ((⟨#[114]⟩ : ByteArray) ++ s) (by rw [tagged_length, List.length_take]; omega) HB.out.size
      have HR := Lib.hid hrun
      have HT' := Lib.hid ht'
      have HB' := Lib.hid (Below.grownTexts HB.out HT.out hg' HB.out.size)
      clear hsk hcell hrun ht' hg' hbw
      go_wp2_with (at_builtin; refine wpList_append_run rfl _ _ _ rfl _ _ _ _ rfl rfl HR.out ?_)
      go_roundw
      case rel => exact ⟨k + 1, by omega, by go_num, by rw [← tagged_snoc l k hlt, HK.out]; exact HT'.out, HB'.out⟩
      case measure => simp [intOf]; omega
    · obtain rfl : k = l.length := by omega
      rw [List.take_length] at HT
      clear hlt hk
      go_wp2_with fail
      refine (newWriter_any _).mono ?_
      rintro e w1 ⟨g, rfl, hg, hw, hb1⟩
      have HT1 := Lib.hid (HT.out.later hb1)
      have HG := Lib.hid hg
      have HW := Lib.hid hw
      have HB1 := Lib.hid hb1
      clear hg hw hb1
      go_wp2_with fail
      refine (putNum_any wr.heap.size g w1.heap.size [] l.length (w1.alloc (.cells #[.int .i64 (l.length : Int)] 3)) (HW.out.alloc _) (by have := HB1.out.size; simp; omega) HG.out hl (by simp) (by simp)).mono ?_
      rintro e w2 ⟨rfl, hw2, hb2⟩
      rw [List.nil_append] at hw2
      have HB2 := Lib.hid ((HB1.out.alloc HB1.out.size (.cells #[.int .i64 (l.length : Int)] 3)).trans hb2)
      have HW2 := Lib.hid hw2
      have HT2 := Lib.hid (HT.out.later HB2.out)
      clear hw2 hb2
      go_wp2_with fail
      refine (bytes_any wr.heap.size g (varint (2 * l.length)) _ HW2.out (varint_ne _)).mono ?_
      rintro e w3 ⟨rfl, rfl⟩
      have hsz : ((⟨(varint (2 * l.length)).toArray⟩ : ByteArray)).size ≤ 2000001 := by
        have := varint_length (2 * l.length)
        rw [Lib.size_eq]; simp; omega
      obtain ⟨ao, n', cap', w', hrun, ht', hg', -⟩ := push_text HT2.out (marker l.length) (by rw [tagged_length]; omega) (Nat.le_trans HB.out.size HB2.out.size)
      have HR := Lib.hid hrun
      have HT' := Lib.hid ht'
      have HB' := Lib.hid (Below.grownTexts (HB.out.trans (HB2.out.mono HB.out.size)) HT2.out hg' (Nat.le_trans HB.out.size HB2.out.size))
      clear hrun ht' hg'
      unfold marker at HR
      generalize hvv : (⟨(varint (2 * l.length)).toArray⟩ : ByteArray) = vb at *
      have HVB := Lib.hid hvv
      clear hvv
      go_wp2_with (first | (at_builtin; refine wpList_append_run rfl _ _ _ rfl _ _ _ _ rfl rfl HR.out ?_) | fail)
      have hfr := frame_any (tagged l ++ [marker l.length]) _ w' HT'.out.strs (by rw [List.length_append, tagged_length]; show l.length + 1 ≤ _; omega) (by
        intro x hx
        rcases List.mem_append.1 hx with h | h
        · obtain ⟨y, hy, rfl⟩ := List.mem_map.1 h
          have := HS.out y hy
          rw [ByteArray.size_append]; show 1 + y.size < _; omega
        · obtain rfl := List.mem_singleton.1 h
          unfold marker
          rw [HVB.out, ByteArray.size_append]; show 1 + vb.size < _; omega) (by rw [raw_group]; exact HF.out)
      rw [raw_group] at hfr
      have HFR := Lib.hid hfr
      clear hfr
      refine HFR.out.mono ?_
      rintro e w4 ⟨rfl, hb4⟩
      have HB4 := Lib.hid (below_step HB'.out hb4)
      clear hb4
      go_wp2
      go_ret
      exact ⟨rfl, HB4.out⟩

end Go.Proofs.YtncpeaamfmfcgaaGreat
