/- WalEmpty: a group of no records is none; a record that is too long is refused, and breaks nothing. -/
import Derived.Test.YtncpeaamfmfcgaaGreatWalShort
import Derived.Deep.OwnRows
import Derived.Lib.SmallJoins
namespace Go.Proofs.YtncpeaamfmfcgaaGreat
open Go.RowKit Go.Proofs.YtncpeaamfmfcgaaGreat.Sum

theorem cells_made (m : Nat) (w : World) (t : TypeId) : ∀ j (hj : j < (List.replicate m (0 : UInt8)).length), (w.alloc (.cells (madeCells #[.int .u8 0] m) t)).cell? ((⟨w.heap.size, 0, none⟩ : Addr).add j) = some (.int .u8 (((List.replicate m (0 : UInt8))[j]).toNat : Int)) := by
  intro j hj
  have hj' : j < m := by simpa using hj
  have hadd : (⟨w.heap.size, 0, none⟩ : Addr).add j = ⟨w.heap.size, j, none⟩ := by unfold Addr.add; split <;> simp_all
  rw [hadd, World.cell?_alloc_at _ _ _ _ rfl, List.getElem_replicate]
  simp [madeCells, hj', Nat.mod_one]

/-- A record that is too long: nothing happens. -/
theorem commit_long_any {w0 w : World} {B d m g : Nat} {rv : Value} {S : St} {L : LSt} (h : At w0 B w d m g rv S L) (hO : S.Ok) (hl : Small L) (l : List ByteArray) (v : Value) (hv : Strs w v l) (hvk : ∀ W rv', Keeps d m g rv rv' w W → Strs W v l) (hlen : l.length ≤ 100000) (hs : ∀ s ∈ l, s.size ≤ 9223372036854775807) (hlong : longB l = true) :
    Calls Tryz.prog 13 #[.pointer (some ⟨g, 0, none⟩), v] w fun e w' => ∃ rv', e = .returned (.int .i64 2) ∧ At w0 B w' d m g rv' S L ∧ Keeps d m g rv rv' w w' := by
  have hcc := commit_any hO h.disk h.log l v hv hvk hlen hl.recs hl.groups hl.size h.size hs
  rw [show S.commit L (raw l) = (2, S, L) by unfold St.commit; rw [if_neg (by rw [hl.broken]; decide), if_pos (by rw [← longB_raw]; exact hlong)]] at hcc
  refine hcc.mono ?_
  rintro e w' ⟨he, hd', rv', hl', hk⟩
  exact ⟨rv', he, ⟨hk.below h.below h.size h.hd h.hm h.hg (fun k q => (h.log.row k q).1), Nat.le_trans h.size hk.size, h.hd, h.hm, h.hg, hd', hl'⟩, hk⟩

/-- Of no records: the very disk, the very log. -/
theorem live_none {w0 w : World} {B d m g : Nat} {rv : Value} {S : St} {name : ByteArray} {gs : List (List (List UInt8))} (h : Live w0 B w d m g rv S name gs) (v : Value) (hv : Strs w v []) (hvk : ∀ W rv', Keeps d m g rv rv' w W → Strs W v []) :
    Calls Tryz.prog 13 #[.pointer (some ⟨g, 0, none⟩), v] w fun e w' => ∃ rv', e = .returned (.int .i64 0) ∧ Live w0 B w' d m g rv' S name gs := by
  obtain ⟨sy, hu⟩ := h.uno
  exact (commit_none_any h.here hu.ok h.small v hv hvk).mono fun _ _ ⟨rv', he, ha, _⟩ => ⟨rv', he, ha, ⟨sy, hu⟩, h.calm, h.fits, h.few⟩

theorem lit_keeps' {d m g : Nat} {rv rv' : Value} {w W : World} (l : List ByteArray) (e : TypeId) (b : Nat) (hb : b = w.heap.size) (hd : d < w.heap.size) (hm : m < w.heap.size) (hg : g < w.heap.size) (hr : ∀ k, rv.ownBlock = some k → k < w.heap.size)
    (hk : Keeps d m g rv rv' (w.alloc (.cells (l.map Value.string).toArray e)) W) : Strs W (.slice (some ⟨b, 0, none⟩) l.length l.length) l := by
  subst hb; exact lit_keeps l e hd hm hg hr hk

theorem raw_one (s : ByteArray) : raw [s] = [s.data.toList] := rfl

set_option maxHeartbeats 8000000 in
set_option maxRecDepth 100000 in
theorem walk_walEmpty (w0 : World) (l : List ByteArray) (v : Value) (hv : Strs w0 v l) (hl : l.length ≤ maxLen) (hs : ∀ s ∈ l, s.size ≤ maxLen) (n : Int) (_hn : -9223372036854775808 ≤ n ∧ n ≤ 9223372036854775807) :
    Calls Tryz.prog 5 #[v, .int .i64 n] w0 fun e w' => e = .returned (.bool true) ∧ Below w0.heap.size w0 w' := by
  unfold maxLen at hl hs
  have HV := Lib.hid hv
  have HS := Lib.hid hs
  obtain ⟨a, cap, rfl, -⟩ := hv.shape
  clear hv hs
  cases h1 : shortB 20 3000 l
  · have H1 := Lib.hid h1
    clear h1
    go_enter Tryz.func5, Tryz.ntmps5
    go_wp2_with fail
    refine (short_any 20 3000 l _ _ HV.out hl (by decide) (by decide) HS.out).mono ?_
    rintro e w1 ⟨rfl, hb1⟩
    rw [H1.out]
    go_wp2_with fail
    refine (alive6_any _).mono ?_
    rintro e w2 ⟨rfl, hb2⟩
    have HB2 := Lib.hid (below_step hb1 hb2)
    clear hb1 hb2
    go_wp2
    go_ret
    exact ⟨rfl, HB2.out⟩
  · have H1 := Lib.hid h1
    have HF := Lib.hid (few_of (few := 20) (room := 3000) h1)
    clear h1
    by_cases hg : n < 59990 ∨ 60010 < n
    · have key : decide (n < 59990) = true ∨ (decide (n < 59990) = false ∧ decide (60010 < n) = true) := by
        simp only [decide_eq_true_eq, decide_eq_false_iff_not]; omega
      clear hg
      rcases key with t1 | ⟨t1, t2⟩
      all_goals
        go_enter Tryz.func5, Tryz.ntmps5
        go_wp2_with fail
        refine (short_any 20 3000 l _ _ HV.out hl (by decide) (by decide) HS.out).mono ?_
        rintro e w1 ⟨rfl, hb1⟩
        rw [H1.out]
        have HB1 := Lib.hid hb1
        clear hb1
        go_wp2_with fail
        refine (alive6_any _).mono ?_
        rintro e w2 ⟨rfl, hb2⟩
        have HB2 := Lib.hid (below_step HB1.out hb2)
        clear hb2
        go_wp2
        go_ret
        exact ⟨rfl, HB2.out⟩
    · have t1 : decide (n < 59990) = false := decide_eq_false (by omega)
      have t2 : decide (60010 < n) = false := decide_eq_false (by omega)
      obtain ⟨k, rfl⟩ : ∃ k : Nat, n = (k : Int) := ⟨n.toNat, by omega⟩
      have HK := Lib.hid (show 59990 ≤ k ∧ k ≤ 60010 by omega)
      have hk0 : (0 : Int) ≤ k := by omega
      clear hg
      have hmk := fun w => run_make_row' (P := Tryz.prog) 48 5 (.int .u8 0) 1 Tryz.underlying48 infoU8 rfl .i64 .i64 k (by have := HK.out; omega) (by have := HK.out; omega) w
      have hcv : ∀ w : World, (convert 48 9 (.slice (some ⟨w.heap.size, 0, none⟩) k k)).run Tryz.prog (w.alloc (.cells (madeCells #[.int .u8 0] k) 5)) = .ok (.string ⟨(List.replicate k (0 : UInt8)).toArray⟩) (w.alloc (.cells (madeCells #[.int .u8 0] k) 5)) := by
        intro w
        have h := run_convert_bytes_back (P := Tryz.prog) _ 48 9 5 ⟨w.heap.size, 0, none⟩ k (List.replicate k 0) Tryz.underlying48 Tryz.underlying5 Tryz.underlying9 (cells_made k w 5)
        rw [List.length_replicate] at h
        exact h
      have hzsz : (⟨(List.replicate k (0 : UInt8)).toArray⟩ : ByteArray).size = k := by rw [Lib.size_eq]; simp
      generalize (⟨(List.replicate k (0 : UInt8)).toArray⟩ : ByteArray) = zs at *
      have HZ := Lib.hid hzsz
      have HCV := Lib.hid hcv
      have HMK := Lib.hid hmk
      clear hzsz hcv hmk
      by_cases hk6 : k < 60000
      · have t6 : decide ((k : Int) < 60000) = true := decide_eq_true (by omega)
        by_cases hl0 : l = []
        · have t7 : decide (0 < l.length) = false := decide_eq_false (by rw [hl0]; decide)
          have HL0 := Lib.hid hl0
          clear hl0
          have HGN := Lib.hid (show (addGroup [raw [zs]] (raw l)).length = 1 by unfold addGroup; rw [if_pos (by rw [HL0.out]; rfl)]; rfl)
          go_enter Tryz.func5, Tryz.ntmps5
          go_wp2_with fail
          refine (short_any 20 3000 l _ _ HV.out hl (by decide) (by decide) HS.out).mono ?_
          rintro e w1 ⟨rfl, hb1⟩
          rw [H1.out]
          have HB1 := Lib.hid hb1
          clear hb1
          go_wp2_with fail
          refine (new_ex _).mono ?_
          rintro e w3 ⟨d, m, hd, hm, rfl, hd3, hb3⟩
          have HD3 := Lib.hid hd3
          have HB3 := Lib.hid (below_step HB1.out hb3)
          have HDM := Lib.hid (show w0.heap.size ≤ d ∧ w0.heap.size ≤ m from ⟨Nat.le_trans HB1.out.size hd, Nat.le_trans HB1.out.size hm⟩)
          clear hd3 hb3 hd hm
          go_wp2_with fail
          refine (live_fresh HB3.out.size HB3.out HDM.out.1 HDM.out.2 HD3.out ⟨#[119]⟩ (by decide)).mono ?_
          rintro e w4 ⟨g, rv, S, rfl, hlive⟩
          have HL4 := Lib.hid hlive
          clear hlive
          go_wp2_with fail
          refine (ops_any d m S _ HL4.out.here.disk).mono ?_
          rintro e w5 ⟨rfl, rfl⟩
          go_wp2_with fail
          refine (live_none HL4.out _ (Strs.nil _) (fun W _ _ => Strs.nil W)).mono ?_
          rintro e w5 ⟨rv5, rfl, hlive⟩
          have HL5 := Lib.hid hlive
          clear hlive
          go_wp2_with fail
          refine (ops_any d m S _ HL5.out.here.disk).mono ?_
          rintro e w6 ⟨rfl, rfl⟩
          go_wp2_with fail
          refine (live_groups HL5.out).mono ?_
          rintro e w6 ⟨rfl, rfl⟩
          have hmk := HMK.out
          have hcv := HCV.out
          go_wp2_with fail
          have HW7 := Lib.hid (HL5.out.later (below_alloc (Below.refl _ w6) (.cells (madeCells #[.int .u8 0] k) 5)))
          have HL7 := Lib.hid (HW7.out.later (below_alloc (Below.refl _ _) (.cells ([zs].map Value.string).toArray 9)))
          clear hmk hcv
          have hfz : Fits (raw [zs]) := ⟨by show 1 ≤ 100000; omega, by intro s hs; rw [raw_one] at hs; obtain rfl := List.mem_singleton.1 hs; rw [← Lib.size_eq, HZ.out]; exact hk6⟩
          have hbz : (groupBytes (raw [zs])).length ≤ 60021 := by
            have := group_small (raw [zs]) 60009 (by rw [sum_raw]; show zs.size + 0 + 9 * 1 ≤ _; rw [HZ.out]; omega) (by show 1 ≤ 400000; omega)
            omega
          refine (live_commit HL7.out [zs] _ (strs_at _ [zs] _ _ (by simp)) (fun W rv' hk => lit_keeps' _ _ _ (by simp) HW7.out.here.lts.1 HW7.out.here.lts.2.1 HW7.out.here.lts.2.2.1 HW7.out.here.lts.2.2.2 hk) hfz (by rw [logBytes_nil]; omega) (by simp)).mono ?_
          rintro e w8 ⟨rv8, S8, rfl, hlive, -⟩
          have HL8 := Lib.hid (show Live w0 w0.heap.size w8 d m g rv8 S8 ⟨#[119]⟩ [raw [zs]] from hlive)
          have HX := Lib.hid (show (logBytes [raw [zs]]).length ≤ 60021 by rw [logBytes_one]; exact hbz)
          clear hlive hfz hbz
          go_wp2_with fail
          refine (live_commit HL8.out l _ (HL8.out.here.now rfl HV.out) (fun W rv' hk => HL8.out.older rfl HV.out hk) (HF.out.fits (by decide) (by decide)) (by have := HX.out; have := HF.out.bytes (by decide); omega) (by have := HF.out.len; exact ⟨by show 1 + l.length ≤ _; omega, by show 1 + 1 ≤ _; omega⟩)).mono ?_
          rintro e w9 ⟨rv9, S9, rfl, hlive, -⟩
          have HL9 := Lib.hid hlive
          clear hlive
          have hll : (l.length : Int) ≤ 20 := by have := HF.out.len; omega
          go_wp2_with fail
          refine (alive6_any _).mono ?_
          rintro e w10 ⟨rfl, hb10⟩
          have HL10 := Lib.hid (HL9.out.later hb10)
          clear hb10
          go_wp2_with fail
          refine (live_groups HL10.out).mono ?_
          rintro e w11 ⟨rfl, rfl⟩
          rw [HGN.out]
          go_wp2_with fail
          refine (live_records HL10.out).mono ?_
          rintro e w12 ⟨v, recs, rfl, hr, ht, hb12⟩
          have HB12 := Lib.hid (HL10.out.later hb12).here.below
          have hrl : recs.length = 1 + l.length := by
            have h1 := congrArg List.length hr
            rw [flatten_add, List.length_append] at h1
            unfold raw at h1
            rw [List.length_map, List.length_map] at h1
            exact h1
          obtain ⟨ra, rcap, hv, -⟩ := ht.strs.shape
          subst hv
          clear hr ht hb12
          have hl0 : l.length = 0 := by rw [HL0.out]; rfl
          go_wp2
          go_ret
          exact ⟨by simp; omega, HB12.out⟩
        · have t7 : decide (0 < l.length) = true := decide_eq_true (List.length_pos_iff.2 hl0)
          have HL0 := Lib.hid hl0
          clear hl0
          have HGN := Lib.hid (show (addGroup [raw [zs]] (raw l)).length = 2 by unfold addGroup; rw [if_neg (by intro q; apply HL0.out; have h1 := congrArg List.length q; unfold raw at h1; rw [List.length_map] at h1; exact List.eq_nil_of_length_eq_zero h1)]; rfl)
          go_enter Tryz.func5, Tryz.ntmps5
          go_wp2_with fail
          refine (short_any 20 3000 l _ _ HV.out hl (by decide) (by decide) HS.out).mono ?_
          rintro e w1 ⟨rfl, hb1⟩
          rw [H1.out]
          have HB1 := Lib.hid hb1
          clear hb1
          go_wp2_with fail
          refine (new_ex _).mono ?_
          rintro e w3 ⟨d, m, hd, hm, rfl, hd3, hb3⟩
          have HD3 := Lib.hid hd3
          have HB3 := Lib.hid (below_step HB1.out hb3)
          have HDM := Lib.hid (show w0.heap.size ≤ d ∧ w0.heap.size ≤ m from ⟨Nat.le_trans HB1.out.size hd, Nat.le_trans HB1.out.size hm⟩)
          clear hd3 hb3 hd hm
          go_wp2_with fail
          refine (live_fresh HB3.out.size HB3.out HDM.out.1 HDM.out.2 HD3.out ⟨#[119]⟩ (by decide)).mono ?_
          rintro e w4 ⟨g, rv, S, rfl, hlive⟩
          have HL4 := Lib.hid hlive
          clear hlive
          go_wp2_with fail
          refine (ops_any d m S _ HL4.out.here.disk).mono ?_
          rintro e w5 ⟨rfl, rfl⟩
          go_wp2_with fail
          refine (live_none HL4.out _ (Strs.nil _) (fun W _ _ => Strs.nil W)).mono ?_
          rintro e w5 ⟨rv5, rfl, hlive⟩
          have HL5 := Lib.hid hlive
          clear hlive
          go_wp2_with fail
          refine (ops_any d m S _ HL5.out.here.disk).mono ?_
          rintro e w6 ⟨rfl, rfl⟩
          go_wp2_with fail
          refine (live_groups HL5.out).mono ?_
          rintro e w6 ⟨rfl, rfl⟩
          have hmk := HMK.out
          have hcv := HCV.out
          go_wp2_with fail
          have HW7 := Lib.hid (HL5.out.later (below_alloc (Below.refl _ w6) (.cells (madeCells #[.int .u8 0] k) 5)))
          have HL7 := Lib.hid (HW7.out.later (below_alloc (Below.refl _ _) (.cells ([zs].map Value.string).toArray 9)))
          clear hmk hcv
          have hfz : Fits (raw [zs]) := ⟨by show 1 ≤ 100000; omega, by intro s hs; rw [raw_one] at hs; obtain rfl := List.mem_singleton.1 hs; rw [← Lib.size_eq, HZ.out]; exact hk6⟩
          have hbz : (groupBytes (raw [zs])).length ≤ 60021 := by
            have := group_small (raw [zs]) 60009 (by rw [sum_raw]; show zs.size + 0 + 9 * 1 ≤ _; rw [HZ.out]; omega) (by show 1 ≤ 400000; omega)
            omega
          refine (live_commit HL7.out [zs] _ (strs_at _ [zs] _ _ (by simp)) (fun W rv' hk => lit_keeps' _ _ _ (by simp) HW7.out.here.lts.1 HW7.out.here.lts.2.1 HW7.out.here.lts.2.2.1 HW7.out.here.lts.2.2.2 hk) hfz (by rw [logBytes_nil]; omega) (by simp)).mono ?_
          rintro e w8 ⟨rv8, S8, rfl, hlive, -⟩
          have HL8 := Lib.hid (show Live w0 w0.heap.size w8 d m g rv8 S8 ⟨#[119]⟩ [raw [zs]] from hlive)
          have HX := Lib.hid (show (logBytes [raw [zs]]).length ≤ 60021 by rw [logBytes_one]; exact hbz)
          clear hlive hfz hbz
          go_wp2_with fail
          refine (live_commit HL8.out l _ (HL8.out.here.now rfl HV.out) (fun W rv' hk => HL8.out.older rfl HV.out hk) (HF.out.fits (by decide) (by decide)) (by have := HX.out; have := HF.out.bytes (by decide); omega) (by have := HF.out.len; exact ⟨by show 1 + l.length ≤ _; omega, by show 1 + 1 ≤ _; omega⟩)).mono ?_
          rintro e w9 ⟨rv9, S9, rfl, hlive, -⟩
          have HL9 := Lib.hid hlive
          clear hlive
          have hll : (l.length : Int) ≤ 20 := by have := HF.out.len; omega
          go_wp2_with fail
          refine (alive6_any _).mono ?_
          rintro e w10 ⟨rfl, hb10⟩
          have HL10 := Lib.hid (HL9.out.later hb10)
          clear hb10
          go_wp2_with fail
          refine (live_groups HL10.out).mono ?_
          rintro e w11 ⟨rfl, rfl⟩
          rw [HGN.out]
          go_wp2_with fail
          refine (live_records HL10.out).mono ?_
          rintro e w12 ⟨v, recs, rfl, hr, ht, hb12⟩
          have HB12 := Lib.hid (HL10.out.later hb12).here.below
          have hrl : recs.length = 1 + l.length := by
            have h1 := congrArg List.length hr
            rw [flatten_add, List.length_append] at h1
            unfold raw at h1
            rw [List.length_map, List.length_map] at h1
            exact h1
          obtain ⟨ra, rcap, hv, -⟩ := ht.strs.shape
          subst hv
          clear hr ht hb12
          have hl1 : (1 : Int) ≤ l.length := by have := List.length_pos_iff.2 HL0.out; omega
          have hmin : min (l.length : Int) 1 = 1 := by omega
          go_wp2
          go_ret
          exact ⟨by simp, HB12.out⟩
      · have t6 : decide ((k : Int) < 60000) = false := decide_eq_false (by omega)
        by_cases hl0 : l = []
        · have t7 : decide (0 < l.length) = false := decide_eq_false (by rw [hl0]; decide)
          have HL0 := Lib.hid hl0
          clear hl0
          have HGN := Lib.hid (show (addGroup ([] : List (List (List UInt8))) (raw l)).length = 0 by unfold addGroup; rw [if_pos (by rw [HL0.out]; rfl)]; rfl)
          go_enter Tryz.func5, Tryz.ntmps5
          go_wp2_with fail
          refine (short_any 20 3000 l _ _ HV.out hl (by decide) (by decide) HS.out).mono ?_
          rintro e w1 ⟨rfl, hb1⟩
          rw [H1.out]
          have HB1 := Lib.hid hb1
          clear hb1
          go_wp2_with fail
          refine (new_ex _).mono ?_
          rintro e w3 ⟨d, m, hd, hm, rfl, hd3, hb3⟩
          have HD3 := Lib.hid hd3
          have HB3 := Lib.hid (below_step HB1.out hb3)
          have HDM := Lib.hid (show w0.heap.size ≤ d ∧ w0.heap.size ≤ m from ⟨Nat.le_trans HB1.out.size hd, Nat.le_trans HB1.out.size hm⟩)
          clear hd3 hb3 hd hm
          go_wp2_with fail
          refine (live_fresh HB3.out.size HB3.out HDM.out.1 HDM.out.2 HD3.out ⟨#[119]⟩ (by decide)).mono ?_
          rintro e w4 ⟨g, rv, S, rfl, hlive⟩
          have HL4 := Lib.hid hlive
          clear hlive
          go_wp2_with fail
          refine (ops_any d m S _ HL4.out.here.disk).mono ?_
          rintro e w5 ⟨rfl, rfl⟩
          go_wp2_with fail
          refine (live_none HL4.out _ (Strs.nil _) (fun W _ _ => Strs.nil W)).mono ?_
          rintro e w5 ⟨rv5, rfl, hlive⟩
          have HL5 := Lib.hid hlive
          clear hlive
          go_wp2_with fail
          refine (ops_any d m S _ HL5.out.here.disk).mono ?_
          rintro e w6 ⟨rfl, rfl⟩
          go_wp2_with fail
          refine (live_groups HL5.out).mono ?_
          rintro e w6 ⟨rfl, rfl⟩
          have hmk := HMK.out
          have hcv := HCV.out
          go_wp2_with fail
          have HW7 := Lib.hid (HL5.out.later (below_alloc (Below.refl _ w6) (.cells (madeCells #[.int .u8 0] k) 5)))
          have HL7 := Lib.hid (HW7.out.later (below_alloc (Below.refl _ _) (.cells ([zs].map Value.string).toArray 9)))
          clear hmk hcv
          have hlz : longB [zs] = true := by show (tooLong zs || false) = true; rw [Bool.or_false]; unfold tooLong; rw [HZ.out]; exact decide_eq_true (by omega)
          obtain ⟨sy7, hu7⟩ := HL7.out.uno
          refine (commit_long_any HL7.out.here hu7.ok HL7.out.small [zs] _ (strs_at _ [zs] _ _ (by simp)) (fun W rv' hk => lit_keeps' _ _ _ (by simp) HW7.out.here.lts.1 HW7.out.here.lts.2.1 HW7.out.here.lts.2.2.1 HW7.out.here.lts.2.2.2 hk) (by simp) (by intro s hs; obtain rfl := List.mem_singleton.1 hs; rw [HZ.out]; omega) hlz).mono ?_
          rintro e w8 ⟨rv8, rfl, ha8, -⟩
          have HL8 := Lib.hid (show Live w0 w0.heap.size w8 d m g rv8 S ⟨#[119]⟩ [] from ⟨ha8, ⟨sy7, hu7⟩, HL7.out.calm, HL7.out.fits, HL7.out.few⟩)
          have HX := Lib.hid (show (logBytes []).length ≤ 60021 by rw [logBytes_nil]; omega)
          clear ha8 hlz hu7
          go_wp2_with fail
          refine (live_commit HL8.out l _ (HL8.out.here.now rfl HV.out) (fun W rv' hk => HL8.out.older rfl HV.out hk) (HF.out.fits (by decide) (by decide)) (by have := HX.out; have := HF.out.bytes (by decide); omega) (by have := HF.out.len; exact ⟨by show 0 + l.length ≤ _; omega, by show 0 + 1 ≤ _; omega⟩)).mono ?_
          rintro e w9 ⟨rv9, S9, rfl, hlive, -⟩
          have HL9 := Lib.hid hlive
          clear hlive
          have hll : (l.length : Int) ≤ 20 := by have := HF.out.len; omega
          go_wp2_with fail
          refine (alive6_any _).mono ?_
          rintro e w10 ⟨rfl, hb10⟩
          have HL10 := Lib.hid (HL9.out.later hb10)
          clear hb10
          go_wp2_with fail
          refine (live_groups HL10.out).mono ?_
          rintro e w11 ⟨rfl, rfl⟩
          rw [HGN.out]
          go_wp2_with fail
          refine (live_records HL10.out).mono ?_
          rintro e w12 ⟨v, recs, rfl, hr, ht, hb12⟩
          have HB12 := Lib.hid (HL10.out.later hb12).here.below
          have hrl : recs.length = 0 + l.length := by
            have h1 := congrArg List.length hr
            rw [flatten_add, List.length_append] at h1
            unfold raw at h1
            rw [List.length_map, List.length_map] at h1
            exact h1
          obtain ⟨ra, rcap, hv, -⟩ := ht.strs.shape
          subst hv
          clear hr ht hb12
          have hl0 : l.length = 0 := by rw [HL0.out]; rfl
          go_wp2
          go_ret
          exact ⟨by simp; omega, HB12.out⟩
        · have t7 : decide (0 < l.length) = true := decide_eq_true (List.length_pos_iff.2 hl0)
          have HL0 := Lib.hid hl0
          clear hl0
          have HGN := Lib.hid (show (addGroup ([] : List (List (List UInt8))) (raw l)).length = 1 by unfold addGroup; rw [if_neg (by intro q; apply HL0.out; have h1 := congrArg List.length q; unfold raw at h1; rw [List.length_map] at h1; exact List.eq_nil_of_length_eq_zero h1)]; rfl)
          go_enter Tryz.func5, Tryz.ntmps5
          go_wp2_with fail
          refine (short_any 20 3000 l _ _ HV.out hl (by decide) (by decide) HS.out).mono ?_
          rintro e w1 ⟨rfl, hb1⟩
          rw [H1.out]
          have HB1 := Lib.hid hb1
          clear hb1
          go_wp2_with fail
          refine (new_ex _).mono ?_
          rintro e w3 ⟨d, m, hd, hm, rfl, hd3, hb3⟩
          have HD3 := Lib.hid hd3
          have HB3 := Lib.hid (below_step HB1.out hb3)
          have HDM := Lib.hid (show w0.heap.size ≤ d ∧ w0.heap.size ≤ m from ⟨Nat.le_trans HB1.out.size hd, Nat.le_trans HB1.out.size hm⟩)
          clear hd3 hb3 hd hm
          go_wp2_with fail
          refine (live_fresh HB3.out.size HB3.out HDM.out.1 HDM.out.2 HD3.out ⟨#[119]⟩ (by decide)).mono ?_
          rintro e w4 ⟨g, rv, S, rfl, hlive⟩
          have HL4 := Lib.hid hlive
          clear hlive
          go_wp2_with fail
          refine (ops_any d m S _ HL4.out.here.disk).mono ?_
          rintro e w5 ⟨rfl, rfl⟩
          go_wp2_with fail
          refine (live_none HL4.out _ (Strs.nil _) (fun W _ _ => Strs.nil W)).mono ?_
          rintro e w5 ⟨rv5, rfl, hlive⟩
          have HL5 := Lib.hid hlive
          clear hlive
          go_wp2_with fail
          refine (ops_any d m S _ HL5.out.here.disk).mono ?_
          rintro e w6 ⟨rfl, rfl⟩
          go_wp2_with fail
          refine (live_groups HL5.out).mono ?_
          rintro e w6 ⟨rfl, rfl⟩
          have hmk := HMK.out
          have hcv := HCV.out
          go_wp2_with fail
          have HW7 := Lib.hid (HL5.out.later (below_alloc (Below.refl _ w6) (.cells (madeCells #[.int .u8 0] k) 5)))
          have HL7 := Lib.hid (HW7.out.later (below_alloc (Below.refl _ _) (.cells ([zs].map Value.string).toArray 9)))
          clear hmk hcv
          have hlz : longB [zs] = true := by show (tooLong zs || false) = true; rw [Bool.or_false]; unfold tooLong; rw [HZ.out]; exact decide_eq_true (by omega)
          obtain ⟨sy7, hu7⟩ := HL7.out.uno
          refine (commit_long_any HL7.out.here hu7.ok HL7.out.small [zs] _ (strs_at _ [zs] _ _ (by simp)) (fun W rv' hk => lit_keeps' _ _ _ (by simp) HW7.out.here.lts.1 HW7.out.here.lts.2.1 HW7.out.here.lts.2.2.1 HW7.out.here.lts.2.2.2 hk) (by simp) (by intro s hs; obtain rfl := List.mem_singleton.1 hs; rw [HZ.out]; omega) hlz).mono ?_
          rintro e w8 ⟨rv8, rfl, ha8, -⟩
          have HL8 := Lib.hid (show Live w0 w0.heap.size w8 d m g rv8 S ⟨#[119]⟩ [] from ⟨ha8, ⟨sy7, hu7⟩, HL7.out.calm, HL7.out.fits, HL7.out.few⟩)
          have HX := Lib.hid (show (logBytes []).length ≤ 60021 by rw [logBytes_nil]; omega)
          clear ha8 hlz hu7
          go_wp2_with fail
          refine (live_commit HL8.out l _ (HL8.out.here.now rfl HV.out) (fun W rv' hk => HL8.out.older rfl HV.out hk) (HF.out.fits (by decide) (by decide)) (by have := HX.out; have := HF.out.bytes (by decide); omega) (by have := HF.out.len; exact ⟨by show 0 + l.length ≤ _; omega, by show 0 + 1 ≤ _; omega⟩)).mono ?_
          rintro e w9 ⟨rv9, S9, rfl, hlive, -⟩
          have HL9 := Lib.hid hlive
          clear hlive
          have hll : (l.length : Int) ≤ 20 := by have := HF.out.len; omega
          go_wp2_with fail
          refine (alive6_any _).mono ?_
          rintro e w10 ⟨rfl, hb10⟩
          have HL10 := Lib.hid (HL9.out.later hb10)
          clear hb10
          go_wp2_with fail
          refine (live_groups HL10.out).mono ?_
          rintro e w11 ⟨rfl, rfl⟩
          rw [HGN.out]
          go_wp2_with fail
          refine (live_records HL10.out).mono ?_
          rintro e w12 ⟨v, recs, rfl, hr, ht, hb12⟩
          have HB12 := Lib.hid (HL10.out.later hb12).here.below
          have hrl : recs.length = 0 + l.length := by
            have h1 := congrArg List.length hr
            rw [flatten_add, List.length_append] at h1
            unfold raw at h1
            rw [List.length_map, List.length_map] at h1
            exact h1
          obtain ⟨ra, rcap, hv, -⟩ := ht.strs.shape
          subst hv
          clear hr ht hb12
          have hl1 : (1 : Int) ≤ l.length := by have := List.length_pos_iff.2 HL0.out; omega
          have hmin : min (l.length : Int) 1 = 1 := by omega
          go_wp2
          go_ret
          exact ⟨by simp, HB12.out⟩

end Go.Proofs.YtncpeaamfmfcgaaGreat
