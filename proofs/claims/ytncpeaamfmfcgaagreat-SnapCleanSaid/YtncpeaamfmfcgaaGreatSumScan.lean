/- sum.Scan finds the frames that are whole. -/
import Derived.Test.YtncpeaamfmfcgaaGreatSumFrame
import Derived.RegionTactic
import Derived.BigQuiet
import Derived.Deep.QuietTactic
import Derived.Deep.RegionHeld3
import Derived.Deep.DeepCutAuto
namespace Go.Proofs.YtncpeaamfmfcgaaGreat
open Go.RowKit Go.Proofs.YtncpeaamfmfcgaaGreat.Sum

theorem extract_from (b : ByteArray) (k : Nat) : (b.extract k b.size).data.toList = b.data.toList.drop k := by
  rw [Lib.extract_data, List.take_of_length_le (by rw [List.length_drop, Lib.size_eq]; exact Nat.le_refl _)]

theorem ok_at (b : ByteArray) (k m : Nat) (hm : num (b.data.toList.drop k) = m) (h8 : 8 ≤ b.size - k) (hA : m ≤ 60000) (hC : m ≤ b.size - (k + 8)) :
    (crc (b.extract (k + 8) (k + 8 + m)).data.toList = num (b.extract (k + 4) b.size).data.toList → ok (b.data.toList.drop k)) ∧
    (¬ crc (b.extract (k + 8) (k + 8 + m)).data.toList = num (b.extract (k + 4) b.size).data.toList → ¬ ok (b.data.toList.drop k)) ∧
    (b.extract (k + 8) (k + 8 + m)).data.toList = ((b.data.toList.drop k).drop 8).take m := by
  have e1 : (b.extract (k + 8) (k + 8 + m)).data.toList = ((b.data.toList.drop k).drop 8).take m := by
    rw [Lib.extract_data, List.drop_drop, show k + 8 + m - (k + 8) = m from by omega]
  have e2 : (b.extract (k + 4) b.size).data.toList = (b.data.toList.drop k).drop 4 := by
    rw [extract_from, List.drop_drop]
  have hl : (b.data.toList.drop k).length = b.size - k := by rw [List.length_drop, Lib.size_eq]
  rw [e1, e2]
  unfold ok
  rw [hm, hl]
  exact ⟨fun h => ⟨h8, hA, by omega, h⟩, fun h q => h q.2.2.2, rfl⟩

theorem below_draws (w : World) (n : Nat) : Below w.heap.size w (w.drewN n) := ⟨rfl, rfl, rfl, Nat.le_refl _, fun _ _ => rfl⟩
theorem below_drawn {w w' : World} (h : Below w.heap.size w w') (n : Nat) : Below w.heap.size w (w'.drewN n) := ⟨h.os, h.tape, h.output, h.size, h.block⟩

theorem scan_done {b : ByteArray} {k : Nat} {l : List ByteArray} {v : Value} {w wr w' : World} (hnot : ¬ ok (b.data.toList.drop k))
    (hl1 : raw l ++ (scan (b.data.toList.drop k)).1 = (scan b.data.toList).1) (hl2 : k + (scan (b.data.toList.drop k)).2 = (scan b.data.toList).2)
    (hown : wr.ownsRow w.heap.size 9 1 v l.length (l.map Value.string)) (hbl : Below w.heap.size w wr) (hb : Below wr.heap.size wr w') :
    ∃ v', Ending.returned (.tuple #[v, .int .i64 (k : Int)]) = Ending.returned (.tuple #[v', .int .i64 ((scan b.data.toList).2 : Nat)]) ∧ Below w.heap.size w w' ∧ ∃ l, raw l = (scan b.data.toList).1 ∧ w'.ownsRow w.heap.size 9 1 v' l.length (l.map Value.string) := by
  rw [scan_stop _ hnot] at hl1 hl2
  simp only [List.append_nil, Nat.add_zero] at hl1 hl2
  refine ⟨v, by rw [hl2], below_step hbl hb, l, hl1, hown.kept (grown_of_below hb) (by cases hv : v.ownBlock <;> simp)⟩

theorem scan_more {b : ByteArray} {k m : Nat} {l : List ByteArray} (hm : num (b.data.toList.drop k) = m) (hok : ok (b.data.toList.drop k))
    (hx : (b.extract (k + 8) (k + 8 + m)).data.toList = ((b.data.toList.drop k).drop 8).take m)
    (hl1 : raw l ++ (scan (b.data.toList.drop k)).1 = (scan b.data.toList).1) (hl2 : k + (scan (b.data.toList.drop k)).2 = (scan b.data.toList).2) :
    raw (l ++ [b.extract (k + 8) (k + 8 + m)]) ++ (scan (b.data.toList.drop (k + 8 + m))).1 = (scan b.data.toList).1 ∧ k + 8 + m + (scan (b.data.toList.drop (k + 8 + m))).2 = (scan b.data.toList).2 := by
  rw [scan_go _ hok, hm, List.drop_drop, List.drop_drop, show k + (8 + m) = k + 8 + m from by omega] at hl1
  rw [scan_go _ hok, hm, List.drop_drop, List.drop_drop, show k + (8 + m) = k + 8 + m from by omega] at hl2
  rw [List.drop_drop] at hx
  refine ⟨?_, ?_⟩
  · rw [← hl1]; unfold raw; rw [List.map_append, List.map_cons, List.map_nil, hx]; simp
  · rw [← hl2]; show _ = k + (_ + (8 + m)); omega

set_option maxHeartbeats 2000000 in
theorem scan_own (b : ByteArray) (w : World) (hb : b.size ≤ 1000000000) :
    Calls Tryz.prog 68 #[.string b] w fun e w' => ∃ v, e = .returned (.tuple #[v, .int .i64 ((scan b.data.toList).2 : Nat)]) ∧ Below w.heap.size w w' ∧
      ∃ l, raw l = (scan b.data.toList).1 ∧ w'.ownsRow w.heap.size 9 1 v l.length (l.map Value.string) := by
  go_enter Tryz.func68, Tryz.ntmps68
  go_wp2
  go_loopw [4, 5] (fun v i wr => ∃ k : Nat, k ≤ b.size ∧ i = .int .i64 k ∧ Below w.heap.size w wr ∧
      ∃ l, l.length ≤ k ∧ wr.ownsRow w.heap.size 9 1 v l.length (l.map Value.string) ∧ raw l ++ (scan (b.data.toList.drop k)).1 = (scan b.data.toList).1 ∧ k + (scan (b.data.toList.drop k)).2 = (scan b.data.toList).2) (fun _ i _ => b.size - (intOf i).toNat)
  case atStart => exact ⟨0, Nat.zero_le _, rfl, Below.refl _ _, [], Nat.le_refl _, World.ownsRow_nil _ _ _ _, rfl, Nat.zero_add _⟩
  case round =>
    obtain ⟨k, hk, rfl, hbl, l, hll, hown, hl1, hl2⟩ := hrel
    have HLL := Lib.hid (show (l.length + 1) * 16 ≤ 140737488355328 ∧ l.length + 1 ≤ k + 8 by omega)
    have HL1 := Lib.hid hl1
    have HL2 := Lib.hid hl2
    have HO := Lib.hid hown
    have HB := Lib.hid hbl
    clear hl1 hl2 hown hbl
    by_cases h8 : 8 ≤ b.size - k
    · have hsz : (b.extract k b.size).size = b.size - k := by simp
      have HS := Lib.hid hsz
      clear hsz
      have h8' : (8 : Int) ≤ (b.size : Int) - k := by omega
      go_wp2_with fail
      refine (num_any (b.extract k b.size) _ (by rw [HS.out]; omega)).mono ?_
      rintro e w1 ⟨rfl, n1, rfl⟩
      rw [extract_from]
      have hm := num_lt (b.data.toList.drop k)
      have HM : Hid (∃ m, m = num (b.data.toList.drop k)) := ⟨_, rfl⟩
      generalize hmm : num (b.data.toList.drop k) = m at *
      have HN := Lib.hid hmm
      clear hmm HM
      by_cases hA : 60000 < m
      · have hA1 : decide ((60000 : Int) < m) = true := by simp; omega
        go_wp2_with fail
        go_quiet (fail)
        go_wp2_with fail
        go_ret2
        exact scan_done (fun q => by have := q.2.1; rw [HN.out] at this; omega) HL1.out HL2.out HO.out HB.out (below_drawn (below_draws wr _) _)
      · have hA1 : decide ((60000 : Int) < m) = false := by simp; omega
        by_cases hC : m ≤ b.size - (k + 8)
        · have hC1 : decide ((b.size : Int) - (↑k + 8) < m) = false := by simp; omega
          go_wp2_with fail
          have hcrc := crc_lt (b.extract (k + 8) (k + 8 + m)).data.toList
          have hnum := num_lt (b.extract (k + 4) b.size).data.toList
          have HOK := Lib.hid (ok_at b k m HN.out (by omega) (by omega) (by omega))
          have HC1 := Lib.hid (crcOf_one (b.extract (k + 8) (k + 8 + m)))
          generalize hcc : crc (b.extract (k + 8) (k + 8 + m)).data.toList = c at *
          generalize hdd : num (b.extract (k + 4) b.size).data.toList = d at *
          have HDD := Lib.hid hdd
          clear hcc hdd
          have hex : (b.extract (k + 8) (k + 8 + m)).size ≤ 9223372036854775807 := by simp; omega
          have hex4 : 4 ≤ (b.extract (k + 4) b.size).size := by simp; omega
          have hw1 : IntKind.i64.wrap ((b.size : Int) - (↑k + 8)) = (b.size : Int) - (↑k + 8) := IntWalk.i64_in _ (by omega)
          have hw2 : IntKind.i64.wrap ((k : Int) + 8 + m) = (k : Int) + 8 + m := IntWalk.i64_in _ (by omega)
          have hw3 : IntKind.i64.wrap ((k : Int) + 4) = (k : Int) + 4 := IntWalk.i64_in _ (by omega)
          have g1 : (0 : Int) ≤ (k : Int) + 8 + m := by omega
          have g2 : (k : Int) + 8 + m ≤ b.size := by omega
          have g3 : (0 : Int) ≤ (k : Int) + 8 := by omega
          have g4 : (k : Int) + 8 ≤ (k : Int) + 8 + m := by omega
          have g5 : (0 : Int) ≤ (k : Int) + 4 := by omega
          have g6 : (k : Int) + 4 ≤ b.size := by omega
          go_region_held3 (fun _ => True) (trivial) (first
            | (go_at_call 103; refine (crc_any [b.extract (k + 8) (k + 8 + m)] _ _ (strs_one _ _ _) (by simp) (by simpa using hex)).mono ?_; rintro e w2 ⟨rfl, rfl⟩; rw [HC1.out])
            | (go_at_call 102; refine (num_any (b.extract (k + 4) b.size) _ hex4).mono ?_; rintro e w2 ⟨rfl, n2, rfl⟩; rw [HDD.out]))
          clear hw1 hw2 hw3
          by_cases hcd : c = d
          · subst hcd
            have HMORE := Lib.hid (scan_more HN.out (HOK.out.1 rfl) HOK.out.2.2 HL1.out HL2.out)
            clear hcrc hnum g1 g2 g3 g4 g5 g6 hex4 HN hm HDD HC1 HOK
            go_wp2_with fail
            refine (clone_any (b.extract (k + 8) (k + 8 + m)) _ (by simp; omega)).mono ?_
            rintro e w2 ⟨rfl, hb2⟩
            have hb3 : Below wr.heap.size wr w2 := below_step (below_drawn (below_alloc (below_draws wr _) _) _) hb2
            have hown2 := HO.out.kept (grown_of_below hb3) (by cases hv : u4.ownBlock <;> simp)
            have hs2 := HB.out.size
            have hs3 := hb3.size
            obtain ⟨i0, hi, hz0, hz1, hz2⟩ := info_parts infoString
            go_wp2_with (at_builtin; refine wpList_append_own _ rfl _ _ 22 rfl w.heap.size 9 i0 (.string ByteArray.empty) 1 16 Tryz.underlying22 hi hz0 hz1 hz2 rfl (by decide) _ _ _ rfl (hown2.alloc _) ⟨w2.heap.size, 0, none⟩ 1 1 [.string (b.extract (k + 8) (k + 8 + m))] rfl rfl ?c1 ?c2 ?c3 ?c4 ?c5 ?_)
            case c1 =>
              intro j u hj
              match j, hj with
              | 0, hj => simp at hj; subst hj; simp [Addr.add]
            case c2 => intro u hu; simp at hu; subst hu; rfl
            case c3 => unfold maxLen; omega
            case c4 => exact HLL.out.1
            case c5 => simp; omega
            intro v' w3 hown' hgrow _
            have hfin : Below w.heap.size w w3 := (below_alloc (below_step HB.out hb3) _).grown hgrow (by simp; omega) (fun k hk => (hown2.lt k hk).1)
            go_wp2
            go_roundw
            case rel => exact ⟨k + 8 + m, by omega, by go_num, hfin, l ++ [b.extract (k + 8) (k + 8 + m)], by have := HLL.out.2; simp; omega, by simpa using hown', HMORE.out.1, HMORE.out.2⟩
            case measure => simp [intOf]; omega
          · have hcd1 : ((c : Int) == (d : Int)) = false := by rw [beq_eq_false_iff_ne]; omega
            go_wp2_with fail
            go_ret2
            exact scan_done (HOK.out.2.1 hcd) HL1.out HL2.out HO.out HB.out (below_drawn (below_alloc (below_draws wr _) _) _)
        · have hC1 : decide ((b.size : Int) - (↑k + 8) < m) = true := by simp; omega
          go_wp2_with fail
          go_quiet (fail)
          go_wp2_with fail
          go_ret2
          exact scan_done (fun q => by have := q.2.2.1; rw [HN.out, List.length_drop, ← Lib.size_eq] at this; omega) HL1.out HL2.out HO.out HB.out (below_drawn (below_draws wr _) _)
    · have h8' : ¬ (8 : Int) ≤ (b.size : Int) - k := by omega
      go_wp2_with fail
      go_ret2
      exact scan_done (fun q => by have := q.1; rw [List.length_drop, ← Lib.size_eq] at this; omega) HL1.out HL2.out HO.out HB.out (Below.refl _ _)

theorem scan_any (b : ByteArray) (w : World) (hb : b.size ≤ 1000000000) :
    Calls Tryz.prog 68 #[.string b] w fun e w' => ∃ v, e = .returned (.tuple #[v, .int .i64 ((scan b.data.toList).2 : Nat)]) ∧ Below w.heap.size w w' ∧
      ∃ l, raw l = (scan b.data.toList).1 ∧ Strs w' v l :=
  (scan_own b w hb).mono fun _ _ ⟨v, he, hbl, l, hl, hv⟩ => ⟨v, he, hbl, l, hl, strs_of_own hv⟩
/-- The same, where what is found is known. -/
theorem scan_of (b : ByteArray) (p : List (List UInt8)) (n : Nat) (w : World) (hb : b.size ≤ 1000000000) (hr : scan b.data.toList = (p, n)) :
    Calls Tryz.prog 68 #[.string b] w fun e w' => ∃ v, e = .returned (.tuple #[v, .int .i64 (n : Int)]) ∧ Below w.heap.size w w' ∧ ∃ l, raw l = p ∧ Strs w' v l :=
  (scan_any b w hb).mono fun e w' ⟨v, he, hbl, l, hl, hv⟩ => ⟨v, by rw [he, hr], hbl, l, by rw [hl, hr], hv⟩

end Go.Proofs.YtncpeaamfmfcgaaGreat
