/- SnapClean: behind Saves there are just a picture and its log; great states are kept as they are. -/
import Derived.Test.YtncpeaamfmfcgaaGreatSnapAlive
import Derived.Deep.OwnRows
import Derived.Lib.SmallJoins
import Derived.Deep.CutRange
namespace Go.Proofs.YtncpeaamfmfcgaaGreat
open Go.RowKit Go.Proofs.YtncpeaamfmfcgaaGreat.Sum

theorem chunks_len (n : Nat) : ∀ l : List UInt8, l.length ≤ n → (chunks l).length ≤ l.length / 60000 + 1 := by
  induction n with
  | zero =>
    intro l h
    rw [chunks_small (by omega)]; simp
  | succ n ih =>
    intro l h
    by_cases hl : l.length ≤ 60000
    · rw [chunks_small hl]; simp
    · rw [chunks_big hl, List.length_cons]
      have h1 := ih (l.drop 60000) (by rw [List.length_drop]; omega)
      rw [List.length_drop] at h1
      omega
theorem layBA_great {s : ByteArray} (h : s.size ≤ 150000) : (layBA s).size ≤ 150100 := by
  have hl : s.data.toList.length ≤ 150000 := by rw [← Lib.size_eq]; exact h
  obtain ⟨h1, -, -⟩ := chunks_spec _ s.data.toList (Nat.le_refl _)
  have h2 := chunks_len _ s.data.toList (Nat.le_refl _)
  have h3 := digs_short (n := s.data.toList.length) (by omega)
  have h4 := digs_short (n := s.size) (by omega)
  rw [layBA_size]
  unfold layB
  rw [frames_len, List.flatten_append, h1]
  simp
  omega

/-- A row of bytes in a block of its own. -/
def BytesAt (w : World) (b : Nat) (bs : List UInt8) : Prop := w.heap[b]? = some (.cells (bs.map fun c => Value.int .u8 (c.toNat : Int)).toArray 5 (0, 0))
section
variable {w w' w0 : World} {b d m t g B : Nat} {bs : List UInt8}
theorem BytesAt.lt (h : BytesAt w b bs) : b < w.heap.size := (Array.getElem?_eq_some_iff.1 h).1
theorem BytesAt.cell (h : BytesAt w b bs) (i : Nat) (hi : i < bs.length) : w.cell? ⟨b, i, none⟩ = some (.int .u8 (bs[i].toNat : Int)) := by
  have h' : w.heap[b]? = _ := h
  simp [World.cell?, h', hi]
theorem BytesAt.free (h : BytesAt w b bs) (i : Nat) : w.frozen? ⟨b, i, none⟩ = false := by
  have h' : w.heap[b]? = _ := h
  simp [World.frozen?, h']
theorem BytesAt.later (h : BytesAt w b bs) (hb : Below w.heap.size w w') : BytesAt w' b bs := (hb.block b h.lt).trans h
theorem BytesAt.set (h : BytesAt w b bs) (i : Nat) (c : UInt8) : BytesAt (w.setCell ⟨b, i, none⟩ (.int .u8 (c.toNat : Int))) b (bs.set i c) := by
  have := setCell_row (i := i) (show w.heap[b]? = _ from h) (.int .u8 (c.toNat : Int))
  unfold BytesAt
  rw [this]
  congr 2
  rw [List.setIfInBounds_toArray, ← List.map_set]
theorem BytesAt.text (h : BytesAt w b bs) : (convert 48 9 (.slice (some ⟨b, 0, none⟩) bs.length bs.length)).run Tryz.prog w = .ok (.string ⟨bs.toArray⟩) w :=
  run_convert_bytes_back (P := Tryz.prog) w 48 9 5 ⟨b, 0, none⟩ bs.length bs Tryz.underlying48 Tryz.underlying5 Tryz.underlying9 (fun j hj => by
    have hadd : (⟨b, 0, none⟩ : Addr).add j = ⟨b, j, none⟩ := by unfold Addr.add; split <;> simp_all
    rw [hadd]; exact h.cell j hj)
theorem BytesAt.off {S : St} {lv dv : Value} {dir base : ByteArray} {r n z : Nat} {br lb : Bool} {name : ByteArray} {rv : Value} {u : Nat} {l : List ByteArray} (h : BytesAt w b bs) (hd : IsDisk w d m S) (hs : StoreAt w t lv dv dir r base br) (hl : LogAt w g (.pointer (some ⟨d, 0, none⟩)) name rv n z lb) (ht : Texts w u rv l) :
    b ≠ d ∧ b ≠ m ∧ b ≠ t ∧ b ≠ g ∧ rv.ownBlock ≠ some b := by
  have h' : w.heap[b]? = _ := h
  refine ⟨?_, ?_, ?_, ?_, ?_⟩
  · rintro rfl
    rw [hd.cells] at h'
    injection h' with h'
    injection h' with _ h2 _
    exact absurd h2 (by decide)
  · rintro rfl
    rw [hd.map] at h'
    injection h' with h'
    cases h'
  · rintro rfl
    have h2 : w.heap[b]? = _ := hs
    rw [h2] at h'
    injection h' with h'
    injection h' with _ h3 _
    exact absurd h3 (by decide)
  · rintro rfl
    have h2 : w.heap[b]? = _ := hl
    rw [h2] at h'
    injection h' with h'
    injection h' with _ h3 _
    exact absurd h3 (by decide)
  · rcases ht.2 with ⟨rfl, -⟩ | ⟨g', cap, cur, rfl, -, hg, -⟩
    · intro h; cases h
    · intro hq
      injection hq with hq
      have hq : g' = b := hq
      subst hq
      rw [h'] at hg
      injection hg with hg
      injection hg with _ h2 _
      exact absurd h2 (by decide)
theorem SLive.offBytes {rv : Value} {S : St} {dir base : ByteArray} {r : Nat} {gs : List (List (List UInt8))} (h : SLive w0 B w d m t g rv S dir r base gs) (hb : BytesAt w b bs) : b ≠ d ∧ b ≠ m ∧ b ≠ t ∧ b ≠ g ∧ rv.ownBlock ≠ some b := by
  obtain ⟨recs, -, ht⟩ := h.at'.here.log.rows
  exact hb.off h.at'.here.disk h.at'.st h.at'.here.log.cells ht
theorem SLive.setByte {rv : Value} {S : St} {dir base : ByteArray} {r : Nat} {gs : List (List (List UInt8))} (h : SLive w0 B w d m t g rv S dir r base gs) (hb : BytesAt w b bs) (hB : B ≤ b) (i : Nat) (v : Value) : SLive w0 B (w.setCell ⟨b, i, none⟩ v) d m t g rv S dir r base gs := by
  obtain ⟨o1, o2, o3, o4, o5⟩ := h.offBytes hb
  have hg : w.grownBy (w.setCell ⟨b, i, none⟩ v) (some b) := ⟨rfl, rfl, rfl, by simp [World.setCell], fun k _ hk => Below.heap_setCell _ _ _ _ (fun q => hk (by rw [q]))⟩
  refine ⟨⟨⟨h.at'.here.below.trans ⟨rfl, rfl, rfl, by simp [World.setCell], fun k hk => Below.heap_setCell _ _ _ _ (show k ≠ b by omega)⟩, by simpa [World.setCell] using h.at'.here.size, h.at'.here.hd, h.at'.here.hm, h.at'.here.hg,
    ⟨(Below.heap_setCell _ _ _ _ (Ne.symm o1)).trans h.at'.here.disk.cells, (Below.heap_setCell _ _ _ _ (Ne.symm o2)).trans h.at'.here.disk.map⟩, ⟨(Below.heap_setCell _ _ _ _ (Ne.symm o4)).trans h.at'.here.log.cells, ?_⟩⟩, (Below.heap_setCell _ _ _ _ (Ne.symm o3)).trans h.at'.st, h.at'.ht⟩, h.kept, h.calm, h.few⟩
  obtain ⟨recs, hr, ht⟩ := h.at'.here.log.rows
  exact ⟨recs, hr, World.ownsRow.kept ht hg (.inr o5)⟩
theorem made_bytes (k : Nat) (w : World) : BytesAt (w.alloc (.cells (madeCells #[.int .u8 0] k) 5)) w.heap.size (List.replicate k 0) := by
  unfold BytesAt
  rw [heap_alloc_new]
  congr 2
  refine Array.ext (by simp [madeCells]) fun i h1 h2 => ?_
  simp [madeCells, Nat.mod_one]
end

def xs1 : List ByteArray := [⟨#[120]⟩]
/-- Behind k rounds. -/
def CleanRel (w0 : World) (B d m t bb Z k : Nat) (wr : World) : Prop :=
  ∃ g rv S base gs bs, SLive w0 B wr d m t g rv S ⟨#[119]⟩ k base gs ∧ BytesAt wr bb bs ∧ bs.length = Z ∧ B ≤ bb ∧ base.size ≤ 150000 ∧ (150000 < Z → k = 0) ∧ ((k = 0 ∧ gs = []) ∨ (k ≠ 0 ∧ gs = [raw xs1] ∧ base = ⟨bs.toArray⟩))

set_option maxHeartbeats 4000000 in
set_option maxRecDepth 100000 in
theorem walk_snapClean (w0 : World) (n : Int) (_hn : -9223372036854775808 ≤ n ∧ n ≤ 9223372036854775807) (z : Int) (_hz : -9223372036854775808 ≤ z ∧ z ≤ 9223372036854775807) :
    Calls Tryz.prog 9 #[.int .i64 n, .int .i64 z] w0 fun e w' => e = .returned (.bool true) ∧ Below w0.heap.size w0 w' := by
  by_cases hg : n < 0 ∨ 12 < n ∨ z < 0 ∨ 150001 < z
  · have key : decide (n < 0) = true ∨ (decide (n < 0) = false ∧ decide (12 < n) = true) ∨ (decide (n < 0) = false ∧ decide (12 < n) = false ∧ decide (z < 0) = true) ∨ (decide (n < 0) = false ∧ decide (12 < n) = false ∧ decide (z < 0) = false ∧ decide (150001 < z) = true) := by
      simp only [decide_eq_true_eq, decide_eq_false_iff_not]; omega
    clear hg
    rcases key with t1 | ⟨t1, t2⟩ | ⟨t1, t2, t3⟩ | ⟨t1, t2, t3, t4⟩
    all_goals
      go_enter Tryz.func9, Tryz.ntmps9
      go_wp2_with fail
      refine (alive7_any _).mono ?_
      rintro e w1 ⟨rfl, hb1⟩
      go_wp2
      go_ret
      exact ⟨rfl, hb1⟩
  · obtain ⟨N, rfl⟩ : ∃ N : Nat, n = (N : Int) := ⟨n.toNat, by omega⟩
    obtain ⟨Z, rfl⟩ : ∃ Z : Nat, z = (Z : Int) := ⟨z.toNat, by omega⟩
    have t1 : decide ((N : Int) < 0) = false := decide_eq_false (by omega)
    have t2 : decide ((12 : Int) < N) = false := decide_eq_false (by omega)
    have t3 : decide ((Z : Int) < 0) = false := decide_eq_false (by omega)
    have t4 : decide ((150001 : Int) < Z) = false := decide_eq_false (by omega)
    have HNZ := Lib.hid (show N ≤ 12 ∧ Z ≤ 150001 by omega)
    have HMK := Lib.hid (fun w => run_make_row' (P := Tryz.prog) 48 5 (.int .u8 0) 1 Tryz.underlying48 infoU8 rfl .i64 .i64 Z (by omega) (by omega) w)
    have HDX := Lib.hid (show 1 ≤ (⟨#[119]⟩ : ByteArray).size ∧ (⟨#[119]⟩ : ByteArray).size ≤ 20 by decide)
    have hz0 : (0 : Int) ≤ Z := by omega
    clear hg _hn _hz
    go_enter Tryz.func9, Tryz.ntmps9
    go_wp2_with fail
    refine (new_ex _).mono ?_
    rintro e w1 ⟨d, m, hd, hm, rfl, hd1, hb1⟩
    have HA1 := Lib.hid (show DAt w0 w0.heap.size w1 d m St.new from ⟨hb1, hb1.size, hd, hm, hd1⟩)
    clear hd1 hb1 hd hm
    go_wp2_with fail
    refine (slive_new HA1.out HDX.out).mono ?_
    rintro e w2 ⟨t, g, rv, S, rfl, hl, -⟩
    have HL2 := Lib.hid hl
    have hmk := HMK.out w2
    have HREL0 := Lib.hid (show CleanRel w0 w0.heap.size d m t w2.heap.size Z 0 (w2.alloc (.cells (madeCells #[.int .u8 0] Z) 5)) from
      ⟨g, rv, S, _, [], _, hl.later (below_alloc (Below.refl _ w2) _), made_bytes Z w2, by simp, hl.at'.here.size, by decide, fun _ => rfl, .inl ⟨rfl, rfl⟩⟩)
    clear hl
    have HBB := Lib.hid (show w0.heap.size ≤ w2.heap.size from HL2.out.at'.here.size)
    generalize hbb : w2.heap.size = bb at *
    have HF1 := Lib.hid (show Fits (raw xs1) from ⟨by decide, by decide⟩)
    have HG1 := Lib.hid (group_small (raw xs1) 10 (by decide) (by decide))
    go_wp2
    clear hmk hbb
    go_loopw [9, 10] (fun iv _ wr => ∃ k : Nat, k ≤ N ∧ iv = .int .i64 (k : Int) ∧ CleanRel w0 w0.heap.size d m t bb Z k wr) (fun iv _ _ => N - (intOf iv).toNat)
    case atStart => exact ⟨0, Nat.zero_le _, rfl, HREL0.out⟩
    case round =>
      obtain ⟨k, hk, rfl, g', rv', S', base, gs, bs, hl, hby, hbl, hB, hbase, h0, hgs⟩ := hrel
      have HL := Lib.hid hl
      have HBY := Lib.hid hby
      have HBL := Lib.hid hbl
      have HBA := Lib.hid hbase
      have HK0 := Lib.hid h0
      have HGS := Lib.hid hgs
      clear hl hby hbl hB hbase h0 hgs
      have HLG := Lib.hid (show (logBytes gs).length ≤ 22 by
        rcases HGS.out with ⟨-, h⟩ | ⟨-, h, -⟩
        · rw [h, logBytes_nil]; omega
        · rw [h, logBytes_one]; exact HG1.out)
      by_cases hlt : k < N
      · have t5 : (k : Int) < N := by omega
        have hk12 : k ≤ 12 := by have := HNZ.out; omega
        go_upto_if 51 with fail
        go_cut [] from 45 to 91 (fun w => ∃ bs2 : List UInt8, SLive w0 w0.heap.size w d m t g' rv' S' ⟨#[119]⟩ k base gs ∧ BytesAt w bb bs2 ∧ bs2.length = Z)
        case first =>
          by_cases hz : Z = 0
          · have t6 : ¬ (0 : Int) < Z := by omega
            have t7 : ¬ 0 < Z := by omega
            clear hz
            go_wp2
            go_meet
            exact ⟨bs, HL.out, HBY.out, HBL.out⟩
          · have t6 : (0 : Int) < Z := by omega
            have t7 : 0 < Z := by omega
            have m1 : IntKind.i64.wrap ((k : Int) * 7919) = (k : Int) * 7919 := IntWalk.i64_in _ (by omega)
            obtain ⟨j, hj⟩ : ∃ j : Nat, j = (k * 7919) % Z := ⟨_, rfl⟩
            have hjz : j < Z := by rw [hj]; exact Nat.mod_lt _ t7
            have m2 : ((k : Int) * 7919) % (Z : Int) = (j : Int) := by rw [hj, Int.natCast_emod, Int.natCast_mul]; rfl
            have hcl := HBY.out.cell j (by rw [HBL.out]; exact hjz)
            have hfr := HBY.out.free j
            have hu : ((UInt8.ofNat (k + 1)).toNat : Int) = (k : Int) + 1 := by rw [UInt8.toNat_ofNat', Nat.mod_eq_of_lt (by omega)]; omega
            have hset := HBY.out.set j (UInt8.ofNat (k + 1))
            have hlv := HL.out.setByte HBY.out HBB.out j (.int .u8 ((UInt8.ofNat (k + 1)).toNat : Int))
            rw [hu] at hset hlv
            have HSET := Lib.hid hset
            have HLV := Lib.hid hlv
            have j0 : (0 : Int) ≤ j := by omega
            have j1 : (j : Int) < Z := by omega
            clear hset hlv hu hj hz
            go_wp2
            go_meet
            exact ⟨_, HLV.out, HSET.out, by rw [List.length_set]; exact HBL.out⟩
        obtain ⟨bs2, hl2, hb2, hbl2⟩ := hcut
        have HLB := Lib.hid hl2
        have HB2 := Lib.hid hb2
        have HBL2 := Lib.hid hbl2
        have htx := hb2.text
        rw [hbl2] at htx
        have hbz : (⟨bs2.toArray⟩ : ByteArray).size = Z := by rw [Lib.size_eq]; simpa using hbl2
        have HBZ := Lib.hid hbz
        clear hl2 hb2 hbl2 hbz HL HBY HBL
        have HROOM := Lib.hid (show sizeAll S'.files ≤ 150200 by
          have h1 := HLB.out.kept.room
          have h2 := layBA_great HBA.out
          have h3 := HLG.out
          omega)
        by_cases hbig : 150000 < Z
        · have t6 : decide ((150000 : Int) < Z) = true := decide_eq_true (by omega)
          have hk0 : k = 0 := HK0.out hbig
          subst hk0
          go_wp2_with fail
          refine (save_long _ HLB.out.at'.st ⟨bs2.toArray⟩ (by rw [HBZ.out]; exact hbig) (by rw [HBZ.out]; have := HNZ.out; omega)).mono ?_
          rintro e w3 ⟨rfl, rfl⟩
          clear hbig htx
          go_wp2_with fail
          refine (alive7_any _).mono ?_
          rintro e w4 ⟨rfl, hb4⟩
          have HL4 := Lib.hid (HLB.out.later hb4)
          clear hb4
          go_wp2_with fail
          refine (sround_any _ HL4.out.at'.st).mono ?_
          rintro e w5 ⟨rfl, rfl⟩
          go_wp2
          go_ret
          exact ⟨rfl, HL4.out.at'.here.below⟩
        · have t6 : decide ((150000 : Int) < Z) = false := decide_eq_false (by omega)
          have HSM := Lib.hid (show Z ≤ 150000 by omega)
          clear hbig
          go_wp2_with fail
          refine (slive_save HLB.out HDX.out.2 (by have := HNZ.out; omega) ⟨bs2.toArray⟩ (by rw [HBZ.out]; exact HSM.out) (by have h1 := HROOM.out; have h2 := layBA_great (s := ⟨bs2.toArray⟩) (by rw [HBZ.out]; exact HSM.out); omega)).mono ?_
          rintro e w3 ⟨g3, rv3, T, rfl, hl3, ho3, -, -⟩
          obtain ⟨o1, o2, o3, -, -⟩ := HLB.out.offBytes HB2.out
          have HL3 := Lib.hid hl3
          have HB3 := Lib.hid (show BytesAt w3 bb bs2 from (ho3.block bb HB2.out.lt o1 o2 o3).trans HB2.out)
          clear hl3 ho3 o1 o2 o3 htx
          go_wp2_with fail
          have HL4 := Lib.hid (HL3.out.later (below_alloc (Below.refl _ w3) (.cells ([⟨#[120]⟩].map Value.string).toArray 9)))
          have HB4 := Lib.hid (HB3.out.later (below_alloc (Below.refl _ w3) (.cells ([⟨#[120]⟩].map Value.string).toArray 9)))
          have HROOM3 := Lib.hid (show sizeAll T.files ≤ 150100 by
            have h1 := HL3.out.kept.room
            have h2 := layBA_great (s := ⟨bs2.toArray⟩) (by rw [HBZ.out]; exact HSM.out)
            rw [logBytes_nil] at h1
            omega)
          refine (slive_commit HL4.out [⟨#[120]⟩] _ (strs_lit _ _ _) (fun W rv' hk => lit_keeps _ _ HL3.out.at'.here.lts.1 HL3.out.at'.here.lts.2.1 HL3.out.at'.here.lts.2.2.1 HL3.out.at'.here.lts.2.2.2 hk) HF1.out (by simp) (by have h1 := HROOM3.out; have h2 := HG1.out; unfold xs1 at h2; omega) (by decide)).mono ?_
          rintro e w5 ⟨rv5, T5, rfl, hl5, hk5⟩
          obtain ⟨o1, o2, -, o4, o5⟩ := HL4.out.offBytes HB4.out
          have HL5 := Lib.hid hl5
          have HB5 := Lib.hid (show BytesAt w5 bb bs2 from (hk5.block bb HB4.out.lt o1 o2 o4 o5).trans HB4.out)
          clear hl5 hk5 o1 o2 o4 o5
          go_wp2_with fail
          refine (sround_any _ HL5.out.at'.st).mono ?_
          rintro e w6 ⟨rfl, rfl⟩
          have HREL := Lib.hid (show CleanRel w0 w0.heap.size d m t bb Z (k + 1) w5 from
            ⟨g3, rv5, T5, _, _, bs2, HL5.out, HB5.out, HBL2.out, HBB.out, by rw [HBZ.out]; exact HSM.out, fun h => by have := HSM.out; omega, .inr ⟨by omega, rfl, rfl⟩⟩)
          go_wp2
          go_roundw
          case rel => exact ⟨k + 1, by omega, by go_num, HREL.out⟩
          case measure => simp [intOf]; omega
      · have hkN : k = N := by omega
        subst hkN
        have HROOM := Lib.hid (show sizeAll S'.files + (logBytes gs).length ≤ 400000 by
          have h1 := HL.out.kept.room
          have h2 := layBA_great HBA.out
          have h3 := HLG.out
          omega)
        clear hlt hk
        go_wp2_with fail
        refine (slive_open HL.out.at'.dat HL.out.kept HL.out.calm HDX.out (by have := HNZ.out; omega) (by have := HBA.out; omega) HROOM.out HL.out.few).mono ?_
        rintro e w6 ⟨t6, g6, rv6, U, rfl, hl6, ho6, -, -, -⟩
        obtain ⟨o1, o2, -⟩ := HL.out.offBytes HBY.out
        have HL6 := Lib.hid hl6
        have HB6 := Lib.hid (show BytesAt w6 bb bs from (ho6.block bb HBY.out.lt o1 o2).trans HBY.out)
        clear hl6 ho6 o1 o2
        have HCNT := Lib.hid (show (namesOf U.files).length = if k = 0 then 1 else 2 by
          rw [namesOf_length]
          obtain ⟨P, sy, b, hP, hF⟩ := HL6.out.kept.files
          rw [hF]
          rcases hP with ⟨rfl, h, -⟩ | ⟨h, y, c, rfl⟩
          · rw [if_pos h]; rfl
          · rw [if_neg h]; rfl)
        go_wp2_with fail
        refine (sbase_any _ HL6.out.at'.st).mono ?_
        rintro e w7 ⟨rfl, rfl⟩
        by_cases hk0 : k = 0
        · subst hk0
          rw [if_pos rfl] at HCNT
          rw [if_pos rfl, decide_eq_true rfl]
          go_wp2_with fail
          refine (alive7_any _).mono ?_
          rintro e w8 ⟨rfl, hb8⟩
          have HL8 := Lib.hid (HL6.out.later hb8)
          clear hb8
          go_wp2_with fail
          refine (files_ok HL8.out.kept.ok HL8.out.at'.here.disk).mono ?_
          rintro e w9 ⟨vf, rfl, hvf, hb9⟩
          obtain ⟨fa, fcap, rfl, -⟩ := hvf.shape
          have HL9 := Lib.hid (HL8.out.later hb9)
          rw [HCNT.out]
          clear hvf hb9
          go_wp2
          go_ret
          exact ⟨rfl, HL9.out.at'.here.below⟩
        · have HGE := Lib.hid (show gs = [raw xs1] ∧ base = ⟨bs.toArray⟩ by rcases HGS.out with ⟨h, -⟩ | ⟨-, h⟩; exact absurd h hk0; exact h)
          rw [if_neg hk0] at HCNT
          rw [if_neg hk0, decide_eq_false hk0]
          have q0 : ((k : Int) == 0) = false := by rw [beq_eq_false_iff_ne]; omega
          have q1 : (0 : Int) < k := by omega
          have q2 : 0 < k := by omega
          have htx := HB6.out.text
          rw [HBL.out] at htx
          rw [HGE.out.2]
          go_wp2_with fail
          refine (alive7_any _).mono ?_
          rintro e w8 ⟨rfl, hb8⟩
          have HL8 := Lib.hid (HL6.out.later hb8)
          have HB8 := Lib.hid (HB6.out.later hb8)
          clear hb8 htx
          go_wp2_with fail
          refine (files_ok HL8.out.kept.ok HL8.out.at'.here.disk).mono ?_
          rintro e w9 ⟨vf, rfl, hvf, hb9⟩
          obtain ⟨fa, fcap, rfl, -⟩ := hvf.shape
          have HL9 := Lib.hid (HL8.out.later hb9)
          have HB9 := Lib.hid (HB8.out.later hb9)
          have htx := HB9.out.text
          rw [HBL.out] at htx
          have c0 := HL9.out.at'.st.facts.1
          rw [HCNT.out]
          clear hvf hb9
          go_wp2_with fail
          refine (groups_any _ HL9.out.at'.here.log).mono ?_
          rintro e w10 ⟨rfl, rfl⟩
          rw [show (logOf (logName ⟨#[119]⟩ k) gs).groups = 1 by rw [HGE.out.1]; rfl]
          go_wp2
          go_ret
          exact ⟨rfl, HL9.out.at'.here.below⟩

end Go.Proofs.YtncpeaamfmfcgaaGreat
