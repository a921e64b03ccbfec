/- wal: Open, and what a log tells. -/
import Derived.Test.YtncpeaamfmfcgaaGreatWalSteps
namespace Go.Proofs.YtncpeaamfmfcgaaGreat
open Go.RowKit Go.Proofs.YtncpeaamfmfcgaaGreat.Sum

/-- A log's state. -/
structure LSt where
  name : ByteArray
  recs : List (List UInt8)
  groups : Nat
  size : Nat
  broken : Bool

/-- Block g is a log on the disk d; its records' row rv is the call's own. -/
structure IsLog (w : World) (base g d : Nat) (rv : Value) (L : LSt) : Prop where
  cells : LogAt w g (.pointer (some ⟨d, 0, none⟩)) L.name rv L.groups L.size L.broken
  rows : ∃ recs, raw recs = L.recs ∧ Texts w base rv recs

theorem IsLog.later {w w' : World} {base g d : Nat} {rv : Value} {L : LSt} (h : IsLog w base g d rv L) (hb : Below w.heap.size w w') : IsLog w' base g d rv L :=
  ⟨h.cells.later hb, let ⟨recs, h1, h2⟩ := h.rows; ⟨recs, h1, h2.later hb⟩⟩
theorem IsLog.mono {w : World} {base base' g d : Nat} {rv : Value} {L : LSt} (h : IsLog w base g d rv L) (hb : base' ≤ base) : IsLog w base' g d rv L :=
  ⟨h.cells, let ⟨recs, h1, h2⟩ := h.rows; ⟨recs, h1, World.ownsRow.mono h2 hb⟩⟩
/-- A row of texts is no disk's block. -/
theorem Texts.apart {w : World} {base d m : Nat} {v : Value} {l : List ByteArray} {S : St} (h : Texts w base v l) (hd : IsDisk w d m S) : v.ownBlock ≠ some d ∧ v.ownBlock ≠ some m := by
  rcases h.2 with ⟨rfl, -⟩ | ⟨g', cap, cur, rfl, -, hg, -⟩
  · exact ⟨(fun h => by cases h), (fun h => by cases h)⟩
  · refine ⟨fun hq => ?_, fun hq => ?_⟩
    · injection hq with hq
      have hq : g' = d := hq
      subst hq
      rw [hd.cells] at hg
      injection hg with hg
      injection hg with _ h2 _
      exact absurd h2 (by decide)
    · injection hq with hq
      have hq : g' = m := hq
      subst hq
      rw [hd.map] at hg
      injection hg with hg
      cases hg
theorem Texts.only {w w' : World} {base d m : Nat} {v : Value} {l : List ByteArray} {S : St} (h : Texts w base v l) (hd : IsDisk w d m S) (ho : Only d m w w') : Texts w' base v l := by
  have ha := h.apart hd
  rcases h.2 with ⟨rfl, h0⟩ | ⟨g', cap, cur, rfl, h1, hg, h2⟩
  · exact ⟨h.1, .inl ⟨rfl, h0⟩⟩
  · refine ⟨h.1, .inr ⟨g', cap, cur, rfl, h1, ?_, h2⟩⟩
    rw [ho.block g' (Array.getElem?_eq_some_iff.1 hg).1 (fun q => ha.1 (by rw [← q]; rfl)) (fun q => ha.2 (by rw [← q]; rfl))]
    exact hg
theorem IsLog.only {w w' : World} {base g d d' m : Nat} {rv : Value} {L : LSt} {S : St} (h : IsLog w base g d' rv L) (hd : IsDisk w d m S) (ho : Only d m w w') : IsLog w' base g d' rv L :=
  ⟨h.cells.only ho (h.cells.apart hd).1 (h.cells.apart hd).2, let ⟨recs, h1, h2⟩ := h.rows; ⟨recs, h1, h2.only hd ho⟩⟩

/-! ### What a log tells -/
set_option maxHeartbeats 1000000 in
theorem none_any {g d : Nat} {name : ByteArray} {rv : Value} {n z : Nat} {br : Bool} (w : World) (h : LogAt w g (.pointer (some ⟨d, 0, none⟩)) name rv n z br) : Calls Tryz.prog 40 #[.pointer (some ⟨g, 0, none⟩)] w fun e w' => e = .returned (.bool false) ∧ w = w' := by
  have c0 := h.facts.1
  clear h
  go_enter Tryz.func40, Tryz.ntmps40
  go_wp2
  go_ret
  exact ⟨rfl, rfl⟩
set_option maxHeartbeats 1000000 in
theorem none_nil (w : World) : Calls Tryz.prog 40 #[.pointer none] w fun e w' => e = .returned (.bool true) ∧ w = w' := by
  go_enter Tryz.func40, Tryz.ntmps40
  go_wp2
  go_ret
  exact ⟨rfl, rfl⟩
set_option maxHeartbeats 1000000 in
theorem none_zero {g : Nat} {name : ByteArray} {rv : Value} {n z : Nat} {br : Bool} (w : World) (h : LogAt w g (.pointer none) name rv n z br) : Calls Tryz.prog 40 #[.pointer (some ⟨g, 0, none⟩)] w fun e w' => e = .returned (.bool true) ∧ w = w' := by
  have c0 := h.facts.1
  clear h
  go_enter Tryz.func40, Tryz.ntmps40
  go_wp2
  go_ret
  exact ⟨rfl, rfl⟩

set_option maxHeartbeats 1000000 in
theorem groups_any {base g d : Nat} {rv : Value} {L : LSt} (w : World) (h : IsLog w base g d rv L) : Calls Tryz.prog 15 #[.pointer (some ⟨g, 0, none⟩)] w fun e w' => e = .returned (.int .i64 (L.groups : Int)) ∧ w = w' := by
  have HC := Lib.hid h.cells
  have c3 := h.cells.facts.2.2.2.1
  clear h
  go_enter Tryz.func15, Tryz.ntmps15
  go_wp2_with fail
  refine (none_any _ HC.out).mono ?_
  rintro e w1 ⟨rfl, rfl⟩
  go_wp2
  go_ret
  exact ⟨rfl, rfl⟩
set_option maxHeartbeats 1000000 in
theorem size_log {base g d : Nat} {rv : Value} {L : LSt} (w : World) (h : IsLog w base g d rv L) : Calls Tryz.prog 16 #[.pointer (some ⟨g, 0, none⟩)] w fun e w' => e = .returned (.int .i64 (L.size : Int)) ∧ w = w' := by
  have HC := Lib.hid h.cells
  have c4 := h.cells.facts.2.2.2.2.1
  clear h
  go_enter Tryz.func16, Tryz.ntmps16
  go_wp2_with fail
  refine (none_any _ HC.out).mono ?_
  rintro e w1 ⟨rfl, rfl⟩
  go_wp2
  go_ret
  exact ⟨rfl, rfl⟩

theorem clone_texts (v : Value) (base : Nat) (l : List ByteArray) (w : World) (hv : Texts w base v l) (hl : l.length ≤ 1000000) :
    Calls Tryz.prog 48 #[v] w fun e w' => ∃ v', e = .returned v' ∧ Texts w' w.heap.size v' l ∧ Below w.heap.size w w' := by
  rcases hv.2 with ⟨rfl, h0⟩ | ⟨g, cap, cur, rfl, hb, hg, hn, hc, hs, ht⟩
  · obtain rfl := List.eq_nil_of_length_eq_zero h0
    refine (Tryz.slices_Clone_string_nil 0 0 w).mono ?_
    rintro e w' ⟨rfl, rfl⟩
    exact ⟨_, rfl, Texts.nil _ _, Below.refl _ _⟩
  · refine (Tryz.slices_Clone_string g 0 l.length cap l w (Nat.le_refl _) (by omega) (fun j hj => ?_)).mono ?_
    · have h1 := World.ownsRow.cells hv (g := g) rfl j (.string l[j]) (by rw [List.getElem?_map, List.getElem?_eq_getElem hj]; rfl)
      have hadd : (⟨g, 0, none⟩ : Addr).add j = ⟨g, 0 + j, none⟩ := by unfold Addr.add; split <;> simp_all
      rw [hadd] at h1
      rw [h1, List.getD_eq_getElem?_getD, List.getElem?_eq_getElem hj]; rfl
    · rintro e w' ⟨v', rfl, hown, -, hbl⟩
      rw [List.take_length] at hown
      exact ⟨v', rfl, hown, hbl⟩

set_option maxHeartbeats 1000000 in
theorem records_any {base g d : Nat} {rv : Value} {L : LSt} (w : World) (h : IsLog w base g d rv L) (hl : L.recs.length ≤ 1000000) : Calls Tryz.prog 14 #[.pointer (some ⟨g, 0, none⟩)] w fun e w' => ∃ v recs, e = .returned v ∧ raw recs = L.recs ∧ Texts w' w.heap.size v recs ∧ Below w.heap.size w w' := by
  have HC := Lib.hid h.cells
  have c2 := h.cells.facts.2.2.1
  obtain ⟨recs, hr, ht⟩ := h.rows
  have HT := Lib.hid ht
  have HR := Lib.hid hr
  have hrl : recs.length ≤ 1000000 := by rw [← hr] at hl; unfold raw at hl; rw [List.length_map] at hl; exact hl
  clear h hr ht hl
  obtain ⟨ra, cap, hrv, -⟩ := HT.out.strs.shape
  subst hrv
  go_enter Tryz.func14, Tryz.ntmps14
  go_wp2_with fail
  refine (none_any _ HC.out).mono ?_
  rintro e w1 ⟨rfl, rfl⟩
  go_wp2_with fail
  refine (clone_texts _ base recs _ HT.out hrl).mono ?_
  rintro e w1 ⟨v', rfl, ht', hb'⟩
  go_wp2
  go_ret
  exact ⟨v', recs, rfl, HR.out, ht', hb'⟩

/-! ### Open -/
/-- What Open comes to. -/
def St.openLog (S : St) (name : ByteArray) : Int × St × Option LSt :=
  if S.on then
    (if has S.files name then
      (if (goodOf (readData S.files name).data.toList).2.2 < (readData S.files name).size then
        (if (S.mend name ((readData S.files name).extract 0 (goodOf (readData S.files name).data.toList).2.2)).1 = 0
          then (0, (S.mend name ((readData S.files name).extract 0 (goodOf (readData S.files name).data.toList).2.2)).2, some ⟨name, (goodOf (readData S.files name).data.toList).1, (goodOf (readData S.files name).data.toList).2.1, (goodOf (readData S.files name).data.toList).2.2, false⟩)
          else ((S.mend name ((readData S.files name).extract 0 (goodOf (readData S.files name).data.toList).2.2)).1, (S.mend name ((readData S.files name).extract 0 (goodOf (readData S.files name).data.toList).2.2)).2, none))
      else (0, S, some ⟨name, (goodOf (readData S.files name).data.toList).1, (goodOf (readData S.files name).data.toList).2.1, (goodOf (readData S.files name).data.toList).2.2, false⟩))
    else (if (S.create name).1 = 0 then (0, (S.create name).2, some ⟨name, [], 0, 0, false⟩) else ((S.create name).1, (S.create name).2, none)))
  else (14, S, none)

def OpenOut (o : Int × St × Option LSt) (d m : Nat) (w : World) (e : Ending) (w' : World) : Prop :=
  IsDisk w' d m o.2.1 ∧ Only d m w w' ∧ match o.2.2 with
    | none => e = .returned (.tuple #[.pointer none, .int .i64 o.1])
    | some L => ∃ g rv, e = .returned (.tuple #[.pointer (some ⟨g, 0, none⟩), .int .i64 0]) ∧ w.heap.size ≤ g ∧ IsLog w' w.heap.size g d rv L

theorem goodOf_nil : goodOf [] = ([], 0, 0) := by unfold goodOf; rw [scan_short [] (by simp)]; rfl

theorem open_done {d m g : Nat} {T : St} {w w3 w4 : World} (hd : IsDisk w3 d m T) (ho : Only d m w w3) (hg : w3.grownBy w4 (some g)) (hw : w.heap.size ≤ g) (gd : g ≠ d) (gm : g ≠ m) : IsDisk w4 d m T ∧ Only d m w w4 := by
  have hlt := hd.lt
  refine ⟨⟨(hg.block d hlt.1 (fun q => gd (Option.some.inj q).symm)).trans hd.cells, (hg.block m hlt.2 (fun q => gm (Option.some.inj q).symm)).trans hd.map⟩, ⟨hg.os.trans ho.os, hg.tape.trans ho.tape, hg.output.trans ho.output, Nat.le_trans ho.size hg.size, fun k hk h1 h2 => ?_⟩⟩
  rw [hg.block k (Nat.lt_of_lt_of_le hk ho.size) (fun q => by have := Option.some.inj q; omega)]
  exact ho.block k hk h1 h2

set_option maxRecDepth 100000 in
set_option maxHeartbeats 4000000 in
theorem open_any {d m : Nat} {S : St} {w : World} (hO : S.Ok) (h : IsDisk w d m S) (name : ByteArray) (hn : name.size ≤ 1000000) :
    Calls Tryz.prog 12 #[.pointer (some ⟨d, 0, none⟩), .string name] w (OpenOut (S.openLog name) d m w) := by
  have HO := Lib.hid hO
  have HD := Lib.hid h
  clear hO h
  rcases (show S.on = true ∨ S.on = false by cases S.on <;> simp) with hon | hon
  · have HON := Lib.hid hon
    clear hon
    cases hh : has S.files name
    · have HLK := Lib.hid (lackErr_false hh)
      have HNO := Lib.hid hh
      by_cases hc : (S.create name).1 = 0
      · have HE := Lib.hid (show S.openLog name = (0, (S.create name).2, some ⟨name, [], 0, 0, false⟩) by unfold St.openLog; rw [if_pos HON.out, if_neg (by rw [hh]; decide), if_pos hc])
        have HC := Lib.hid hc
        have hrd : readData S.files name = ByteArray.empty := by unfold readData; rw [fileOf_miss hh]
        have HRD := Lib.hid hrd
        clear hh hc hrd
        go_enter Tryz.func12, Tryz.ntmps12
        go_wp2_with fail
        refine (clone_any name _ (by omega)).mono ?_
        rintro e w1 ⟨rfl, hb1⟩
        have HB := Lib.hid (below_alloc hb1 (.cells #[.pointer (some ⟨d, 0, none⟩), .string name, .slice none 0 0, .int .i64 0, .int .i64 0, .bool false] 27))
        have HL := Lib.hid (show LogAt (w1.alloc (.cells #[.pointer (some ⟨d, 0, none⟩), .string name, .slice none 0 0, .int .i64 0, .int .i64 0, .bool false] 27)) w1.heap.size (.pointer (some ⟨d, 0, none⟩)) name (.slice none 0 0) 0 0 false from heap_alloc_new w1 _)
        have HG := Lib.hid hb1.size
        clear hb1
        go_wp2_with fail
        refine (read_any d m S name _ (HD.out.later HB.out)).mono ?_
        rintro e w2 ⟨rfl, hb2⟩
        rw [HON.out, HLK.out]
        have HB2 := Lib.hid (below_step HB.out hb2)
        have HL2 := Lib.hid (HL.out.later hb2)
        clear hb2
        rw [HRD.out]
        go_wp2_with fail
        refine (create_ok HO.out name (by omega) (HD.out.later HB2.out)).mono ?_
        rintro e w3 ⟨rfl, hd3, ho3⟩
        rw [HC.out]
        have HD3 := Lib.hid hd3
        have HO3 := Lib.hid ((Only.of_below (d := d) (m := m) HB2.out).trans ho3)
        have HL3 := Lib.hid (HL2.out.only ho3 (HL2.out.apart (HD.out.later HB2.out)).1 (HL2.out.apart (HD.out.later HB2.out)).2)
        clear hd3 ho3
        go_wp2_with fail
        refine (good_any _ _ name ByteArray.empty w3 HL3.out (by decide)).mono ?_
        rintro e w4 ⟨rfl, rv, recs, hr, hl4, ht4, hg4⟩
        have hz : goodOf ByteArray.empty.data.toList = ([], 0, 0) := goodOf_nil
        rw [hz] at hr hl4
        have HL4 := Lib.hid hl4
        have HT4 := Lib.hid ht4
        have HRW := Lib.hid hr
        have HG4 := Lib.hid hg4
        have c4 := hl4.facts.2.2.2.2.1
        clear hr hl4 ht4 hg4 hz
        go_wp2
        go_ret2
        rw [HE.out]
        have hap := HL3.out.apart HD3.out
        obtain ⟨q1, q2⟩ := open_done HD3.out HO3.out HG4.out HG.out hap.1 hap.2
        exact ⟨q1, q2, _, rv, rfl, HG.out, HL4.out, recs, HRW.out, World.ownsRow.mono HT4.out HO3.out.size⟩
      · have HE := Lib.hid (show S.openLog name = ((S.create name).1, (S.create name).2, none) by unfold St.openLog; rw [if_pos HON.out, if_neg (by rw [hh]; decide), if_neg hc])
        have t1 : ((S.create name).1 != 0) = true := by rw [bne_iff_ne]; exact hc
        clear hh hc
        go_enter Tryz.func12, Tryz.ntmps12
        go_wp2_with fail
        refine (clone_any name _ (by omega)).mono ?_
        rintro e w1 ⟨rfl, hb1⟩
        have HB := Lib.hid (below_alloc hb1 (.cells #[.pointer (some ⟨d, 0, none⟩), .string name, .slice none 0 0, .int .i64 0, .int .i64 0, .bool false] 27))
        have HL := Lib.hid (show LogAt (w1.alloc (.cells #[.pointer (some ⟨d, 0, none⟩), .string name, .slice none 0 0, .int .i64 0, .int .i64 0, .bool false] 27)) w1.heap.size (.pointer (some ⟨d, 0, none⟩)) name (.slice none 0 0) 0 0 false from heap_alloc_new w1 _)
        have HG := Lib.hid hb1.size
        clear hb1
        go_wp2_with fail
        refine (read_any d m S name _ (HD.out.later HB.out)).mono ?_
        rintro e w2 ⟨rfl, hb2⟩
        rw [HON.out, HLK.out]
        have HB2 := Lib.hid (below_step HB.out hb2)
        have HL2 := Lib.hid (HL.out.later hb2)
        clear hb2
        go_wp2_with fail
        refine (create_ok HO.out name (by omega) (HD.out.later HB2.out)).mono ?_
        rintro e w3 ⟨rfl, hd3, ho3⟩
        have HD3 := Lib.hid hd3
        have HO3 := Lib.hid ((Only.of_below (d := d) (m := m) HB2.out).trans ho3)
        clear hd3 ho3
        go_wp2
        go_ret2
        rw [HE.out]
        exact ⟨HD3.out, HO3.out, rfl⟩
    · have HLK := Lib.hid (lackErr_true hh)
      have HNO := Lib.hid hh
      have hsz : (readData S.files name).size ≤ 400000 := by
        obtain ⟨fp, f, fq, he, hf, hfp⟩ := has_true hh
        have h1 : readData S.files name = f.data := by unfold readData; rw [he, fileOf_hit hf hfp]
        have h2 := sizeAll_mem (show f ∈ S.files by rw [he]; simp)
        have := HO.out.room
        rw [h1]; omega
      generalize hbd : readData S.files name = b at *
      have HBD := Lib.hid hbd
      clear hh hbd
      by_cases hlt : (goodOf b.data.toList).2.2 < b.size
      · by_cases hc : (S.mend name (b.extract 0 (goodOf b.data.toList).2.2)).1 = 0
        · have HE := Lib.hid (show S.openLog name = (0, (S.mend name (b.extract 0 (goodOf b.data.toList).2.2)).2, some ⟨name, (goodOf b.data.toList).1, (goodOf b.data.toList).2.1, (goodOf b.data.toList).2.2, false⟩) by unfold St.openLog; rw [HBD.out, if_pos HON.out, if_pos HNO.out, if_pos hlt, if_pos hc])
          have HC := Lib.hid hc
          generalize hgd : goodOf b.data.toList = G at *
          obtain ⟨gr, gn, gz⟩ := G
          have hlt : gz < b.size := hlt
          have HGD := Lib.hid hgd
          have hlt' : (gz : Int) < b.size := by omega
          clear hc hgd
          go_enter Tryz.func12, Tryz.ntmps12
          go_wp2_with fail
          refine (clone_any name _ (by omega)).mono ?_
          rintro e w1 ⟨rfl, hb1⟩
          have HB := Lib.hid (below_alloc hb1 (.cells #[.pointer (some ⟨d, 0, none⟩), .string name, .slice none 0 0, .int .i64 0, .int .i64 0, .bool false] 27))
          have HL := Lib.hid (show LogAt (w1.alloc (.cells #[.pointer (some ⟨d, 0, none⟩), .string name, .slice none 0 0, .int .i64 0, .int .i64 0, .bool false] 27)) w1.heap.size (.pointer (some ⟨d, 0, none⟩)) name (.slice none 0 0) 0 0 false from heap_alloc_new w1 _)
          have HG := Lib.hid hb1.size
          clear hb1
          go_wp2_with fail
          refine (read_any d m S name _ (HD.out.later HB.out)).mono ?_
          rintro e w2 ⟨rfl, hb2⟩
          rw [HON.out, HLK.out, HBD.out]
          have HB2 := Lib.hid (below_step HB.out hb2)
          have HL2 := Lib.hid (HL.out.later hb2)
          clear hb2
          go_wp2_with fail
          refine (good_any _ _ name b w2 HL2.out (by omega)).mono ?_
          rintro e w4 ⟨rfl, rv, recs, hr, hl4, ht4, hg4⟩
          rw [HGD.out] at hr hl4
          have HL4 := Lib.hid hl4
          have HT4 := Lib.hid ht4
          have HRW := Lib.hid hr
          have hap := HL2.out.apart (HD.out.later HB2.out)
          have HDN := Lib.hid (open_done (HD.out.later HB2.out) (Only.of_below HB2.out) hg4 HG.out hap.1 hap.2)
          have c4 := hl4.facts.2.2.2.2.1
          clear hr hl4 ht4 hg4 hap
          go_wp2_with fail
          refine (mend_any HO.out HDN.out.1 HL4.out (by show gz ≤ b.size; omega) (by omega) hn).mono ?_
          rintro e w5 ⟨rfl, hd5, ho5⟩
          have hc2 : (S.mend name (b.extract 0 gz)).1 = 0 := HC.out
          rw [hc2]
          have HD5 := Lib.hid hd5
          have HO5 := Lib.hid (HDN.out.2.trans ho5)
          have HIL := Lib.hid ((show IsLog w4 w.heap.size w1.heap.size d rv ⟨name, gr, gn, gz, false⟩ from ⟨HL4.out, recs, HRW.out, World.ownsRow.mono HT4.out HB2.out.size⟩).only HDN.out.1 ho5)
          clear hd5 ho5 hc2
          go_wp2
          go_ret2
          rw [HE.out]
          exact ⟨HD5.out, HO5.out, _, rv, rfl, HG.out, HIL.out⟩
        · have HE := Lib.hid (show S.openLog name = ((S.mend name (b.extract 0 (goodOf b.data.toList).2.2)).1, (S.mend name (b.extract 0 (goodOf b.data.toList).2.2)).2, none) by unfold St.openLog; rw [HBD.out, if_pos HON.out, if_pos HNO.out, if_pos hlt, if_neg hc])
          have HC := Lib.hid hc
          generalize hgd : goodOf b.data.toList = G at *
          obtain ⟨gr, gn, gz⟩ := G
          have hlt : gz < b.size := hlt
          have HGD := Lib.hid hgd
          have hlt' : (gz : Int) < b.size := by omega
          clear hc hgd
          go_enter Tryz.func12, Tryz.ntmps12
          go_wp2_with fail
          refine (clone_any name _ (by omega)).mono ?_
          rintro e w1 ⟨rfl, hb1⟩
          have HB := Lib.hid (below_alloc hb1 (.cells #[.pointer (some ⟨d, 0, none⟩), .string name, .slice none 0 0, .int .i64 0, .int .i64 0, .bool false] 27))
          have HL := Lib.hid (show LogAt (w1.alloc (.cells #[.pointer (some ⟨d, 0, none⟩), .string name, .slice none 0 0, .int .i64 0, .int .i64 0, .bool false] 27)) w1.heap.size (.pointer (some ⟨d, 0, none⟩)) name (.slice none 0 0) 0 0 false from heap_alloc_new w1 _)
          have HG := Lib.hid hb1.size
          clear hb1
          go_wp2_with fail
          refine (read_any d m S name _ (HD.out.later HB.out)).mono ?_
          rintro e w2 ⟨rfl, hb2⟩
          rw [HON.out, HLK.out, HBD.out]
          have HB2 := Lib.hid (below_step HB.out hb2)
          have HL2 := Lib.hid (HL.out.later hb2)
          clear hb2
          go_wp2_with fail
          refine (good_any _ _ name b w2 HL2.out (by omega)).mono ?_
          rintro e w4 ⟨rfl, rv, recs, hr, hl4, ht4, hg4⟩
          rw [HGD.out] at hr hl4
          have HL4 := Lib.hid hl4
          have HT4 := Lib.hid ht4
          have HRW := Lib.hid hr
          have hap := HL2.out.apart (HD.out.later HB2.out)
          have HDN := Lib.hid (open_done (HD.out.later HB2.out) (Only.of_below HB2.out) hg4 HG.out hap.1 hap.2)
          have c4 := hl4.facts.2.2.2.2.1
          clear hr hl4 ht4 hg4 hap
          go_wp2_with fail
          refine (mend_any HO.out HDN.out.1 HL4.out (by show gz ≤ b.size; omega) (by omega) hn).mono ?_
          rintro e w5 ⟨rfl, hd5, ho5⟩
          have t1 : ((S.mend name (b.extract 0 gz)).1 != 0) = true := by rw [bne_iff_ne]; exact HC.out
          have HD5 := Lib.hid hd5
          have HO5 := Lib.hid (HDN.out.2.trans ho5)
          clear hd5 ho5
          go_wp2
          go_ret2
          rw [HE.out]
          exact ⟨HD5.out, HO5.out, rfl⟩
      · have HE := Lib.hid (show S.openLog name = (0, S, some ⟨name, (goodOf b.data.toList).1, (goodOf b.data.toList).2.1, (goodOf b.data.toList).2.2, false⟩) by unfold St.openLog; rw [HBD.out, if_pos HON.out, if_pos HNO.out, if_neg hlt])
        generalize hgd : goodOf b.data.toList = G at *
        obtain ⟨gr, gn, gz⟩ := G
        have hlt : ¬ gz < b.size := hlt
        have HGD := Lib.hid hgd
        have hlt' : ¬ (gz : Int) < b.size := by omega
        clear hgd
        go_enter Tryz.func12, Tryz.ntmps12
        go_wp2_with fail
        refine (clone_any name _ (by omega)).mono ?_
        rintro e w1 ⟨rfl, hb1⟩
        have HB := Lib.hid (below_alloc hb1 (.cells #[.pointer (some ⟨d, 0, none⟩), .string name, .slice none 0 0, .int .i64 0, .int .i64 0, .bool false] 27))
        have HL := Lib.hid (show LogAt (w1.alloc (.cells #[.pointer (some ⟨d, 0, none⟩), .string name, .slice none 0 0, .int .i64 0, .int .i64 0, .bool false] 27)) w1.heap.size (.pointer (some ⟨d, 0, none⟩)) name (.slice none 0 0) 0 0 false from heap_alloc_new w1 _)
        have HG := Lib.hid hb1.size
        clear hb1
        go_wp2_with fail
        refine (read_any d m S name _ (HD.out.later HB.out)).mono ?_
        rintro e w2 ⟨rfl, hb2⟩
        rw [HON.out, HLK.out, HBD.out]
        have HB2 := Lib.hid (below_step HB.out hb2)
        have HL2 := Lib.hid (HL.out.later hb2)
        clear hb2
        go_wp2_with fail
        refine (good_any _ _ name b w2 HL2.out (by omega)).mono ?_
        rintro e w4 ⟨rfl, rv, recs, hr, hl4, ht4, hg4⟩
        rw [HGD.out] at hr hl4
        have HL4 := Lib.hid hl4
        have HT4 := Lib.hid ht4
        have HRW := Lib.hid hr
        have hap := HL2.out.apart (HD.out.later HB2.out)
        have HDN := Lib.hid (open_done (HD.out.later HB2.out) (Only.of_below HB2.out) hg4 HG.out hap.1 hap.2)
        have c4 := hl4.facts.2.2.2.2.1
        clear hr hl4 ht4 hg4 hap
        have HIL := Lib.hid (show IsLog w4 w.heap.size w1.heap.size d rv ⟨name, gr, gn, gz, false⟩ from ⟨HL4.out, recs, HRW.out, World.ownsRow.mono HT4.out HB2.out.size⟩)
        go_wp2
        go_ret2
        rw [HE.out]
        exact ⟨HDN.out.1, HDN.out.2, _, rv, rfl, HG.out, HIL.out⟩
  · have HE := Lib.hid (show S.openLog name = (14, S, none) by unfold St.openLog; rw [if_neg (by simp [hon])])
    have HON := Lib.hid hon
    clear hon
    go_enter Tryz.func12, Tryz.ntmps12
    go_wp2_with fail
    refine (clone_any name _ (by omega)).mono ?_
    rintro e w1 ⟨rfl, hb1⟩
    have HB := Lib.hid (below_alloc hb1 (.cells #[.pointer (some ⟨d, 0, none⟩), .string name, .slice none 0 0, .int .i64 0, .int .i64 0, .bool false] 27))
    clear hb1
    go_wp2_with fail
    refine (read_any d m S name _ (HD.out.later HB.out)).mono ?_
    rintro e w2 ⟨rfl, hb2⟩
    rw [HON.out]
    have HB2 := Lib.hid (below_step HB.out hb2)
    clear hb2
    go_wp2
    go_ret2
    rw [HE.out]
    exact ⟨HD.out.later HB2.out, Only.of_below HB2.out, rfl⟩

end Go.Proofs.YtncpeaamfmfcgaaGreat
