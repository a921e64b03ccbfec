/- Crash: of what was not synced some bytes stay. -/
import Derived.Test.YtncpeaamfmfcgaaGreatDiskFiles
namespace Go.Proofs.YtncpeaamfmfcgaaGreat
open Go.RowKit

/-- How many bytes of those not synced stay. -/
def keptAt (keep : List Int) (i : Nat) (f : FE) : Nat :=
  match keep[i]? with
  | some x => (x % ((f.data.size : Int) - (f.synced : Int) + 1)).toNat
  | none => 0
def crashFE (keep : List Int) (i : Nat) (f : FE) : FE := { f with data := f.data.extract 0 (f.synced + keptAt keep i f), synced := f.synced + keptAt keep i f }
/-- The files behind it: each by its place in the order of the names. -/
def crashAll (keep : List Int) : List ByteArray → Nat → List FE → List FE
  | [], _, l => l
  | s :: names, i, l => crashAll keep names (i + 1) (upd l s (crashFE keep i))
def St.crash (S : St) (keep : List Int) : St := { S with on := false, fused := false, files := crashAll keep (namesOf S.files) 0 S.files }

theorem keptAt_le (keep : List Int) (i : Nat) (f : FE) (h : f.synced ≤ f.data.size) : f.synced + keptAt keep i f ≤ f.data.size := by
  unfold keptAt
  cases keep[i]? with
  | none => simpa using h
  | some x =>
    have h1 := Int.emod_lt_of_pos x (b := (f.data.size : Int) - (f.synced : Int) + 1) (by omega)
    have h2 := Int.emod_nonneg x (b := (f.data.size : Int) - (f.synced : Int) + 1) (by omega)
    show f.synced + (x % _).toNat ≤ _
    omega

/-- Every file's synced bytes are bytes of it, and it is not too long. -/
def Whole (l : List FE) : Prop := ∀ f ∈ l, f.synced ≤ f.data.size ∧ f.data.size ≤ 1000000000
theorem upd_names (l : List FE) (s : ByteArray) (g : FE → FE) (hg : ∀ f, (g f).name = f.name) : (upd l s g).map (·.name) = l.map (·.name) := by
  unfold upd
  rw [List.map_map]
  refine List.map_congr_left fun f _ => ?_
  simp only [Function.comp]
  split
  · exact hg f
  · rfl
theorem upd_born (l : List FE) (s : ByteArray) (g : FE → FE) (hg : ∀ f, (g f).born = f.born) : (upd l s g).map (·.born) = l.map (·.born) := by
  unfold upd
  rw [List.map_map]
  refine List.map_congr_left fun f _ => ?_
  simp only [Function.comp]
  split
  · exact hg f
  · rfl
theorem apart_names (l : List FE) : Apart l ↔ (l.map (·.name)).Nodup := by
  unfold Apart
  rw [List.Nodup, List.pairwise_map]
theorem has_names (l : List FE) (s : ByteArray) : has l s = true ↔ s ∈ l.map (·.name) := by
  unfold has
  simp only [List.any_eq_true, List.mem_map, decide_eq_true_eq]
theorem Apart.upd {l : List FE} (h : Apart l) (s : ByteArray) (g : FE → FE) (hg : ∀ f, (g f).name = f.name) : Apart (upd l s g) := by
  rw [apart_names, upd_names l s g hg, ← apart_names]; exact h
theorem Whole.crash {l : List FE} (h : Whole l) (keep : List Int) (i : Nat) (s : ByteArray) : Whole (upd l s (crashFE keep i)) := by
  intro f hf
  unfold Go.Proofs.YtncpeaamfmfcgaaGreat.upd at hf
  obtain ⟨g, hg, rfl⟩ := List.mem_map.1 hf
  have h1 := h g hg
  split
  · have := keptAt_le keep i g h1.1
    refine ⟨?_, ?_⟩
    · show g.synced + keptAt keep i g ≤ (g.data.extract 0 (g.synced + keptAt keep i g)).size
      rw [ByteArray.size_extract]; omega
    · show (g.data.extract 0 (g.synced + keptAt keep i g)).size ≤ _
      rw [ByteArray.size_extract]; omega
  · exact h1

theorem mem_namesOf (l : List FE) (s : ByteArray) : s ∈ namesOf l ↔ has l s = true := by
  rw [has_names]
  unfold namesOf keysOf
  simp only [List.mem_map, List.mem_mergeSort]
  constructor
  · rintro ⟨b, ⟨f, hf, rfl⟩, rfl⟩
    exact ⟨f, hf, by simp⟩
  · rintro ⟨f, hf, rfl⟩
    exact ⟨_, ⟨f, hf, rfl⟩, by simp⟩
theorem namesOf_length (l : List FE) : (namesOf l).length = l.length := by
  unfold namesOf keysOf; rw [List.length_map, List.length_mergeSort, List.length_map]

/-- Texts stay where only a disk turns: a disk's cells hold no text. -/
theorem Strs.only {w w' : World} {d m : Nat} {S : St} {v : Value} {l : List ByteArray} (h : Strs w v l) (hd : IsDisk w d m S) (ho : Only d m w w') : Strs w' v l := by
  obtain ⟨a, cap, hv, hl, hn, hc⟩ := h
  refine ⟨a, cap, hv, hl, hn, fun k hk => ?_⟩
  obtain ⟨b, off, ha, hlt, h1⟩ := hc k hk
  refine ⟨b, off, ha, Nat.lt_of_lt_of_le hlt ho.size, only_cell ho h1 ?_ ?_⟩
  · intro e
    subst e
    have h2 := hd.cell (off + k)
    rw [h1] at h2
    have : ∀ (j : Nat) (s : ByteArray), some (Value.string s) ≠ (S.cells m)[j]? := by
      intro j s
      rcases j with _ | _ | _ | _ | _ | j <;> simp [St.cells]
    exact this _ _ h2
  · intro e
    subst e
    simp [World.cell?, hd.map, mapOf] at h1

theorem emod_tmod (x n : Int) : x % n = x.tmod n % n := by
  have e := Int.mul_tdiv_add_tmod x n
  calc x % n = (n * x.tdiv n + x.tmod n) % n := by rw [e]
    _ = x.tmod n % n := Int.mul_add_emod_self_left ..
theorem emod_of_nonneg (x n : Int) (hn : 0 < n) (h : 0 ≤ x.tmod n) : x % n = x.tmod n := by
  rw [emod_tmod, Int.emod_eq_of_lt h (Int.tmod_lt_of_pos x hn)]
theorem emod_of_neg (x n : Int) (hn : 0 < n) (h : x.tmod n < 0) : x % n = x.tmod n + n := by
  have h1 := Int.lt_tmod_of_pos x hn
  rw [emod_tmod, ← Int.add_emod_right, Int.emod_eq_of_lt (by omega) (by omega)]

set_option maxHeartbeats 4000000 in
set_option maxRecDepth 100000 in
theorem crash_any (d m : Nat) (S : St) (kv : Value) (keep : List Int) (w : World) (h : IsDisk w d m S) (hs : Stamps S.files S.clock) (ha : Apart S.files) (hn : ∀ f ∈ S.files, f.name.size ≤ 40) (hl : S.files.length ≤ 1000) (hw : Whole S.files)
    (hk : ∀ W, Only d m w W → Ints W kv keep) :
    Calls Tryz.prog 25 #[.pointer (some ⟨d, 0, none⟩), kv] w fun e w' => e = .returned (.tuple #[]) ∧ IsDisk w' d m (S.crash keep) ∧ Only d m w w' := by
  have h' := Lib.hid h
  obtain ⟨c0, c1, -, -, -, f0, f1, -, -, -⟩ := h.facts
  have hlt := h.lt.1
  have H1 := Lib.hid (show IsDisk ((w.setCell ⟨d, 0, none⟩ (.bool false)).setCell ⟨d, 1, none⟩ (.bool false)) d m { S with on := false, fused := false } from (h.setOn _).setFused _)
  have HO := Lib.hid (show Only d m w ((w.setCell ⟨d, 0, none⟩ (.bool false)).setCell ⟨d, 1, none⟩ (.bool false)) from ((Only.refl _ _ _).setCell _ _).setCell _ _)
  have HK := Lib.hid hk
  have HS := Lib.hid hs
  have HA := Lib.hid ha
  have HN := Lib.hid hn
  have HL := Lib.hid hl
  have HW := Lib.hid hw
  obtain ⟨ka, kc, hkv, -⟩ := hk w (Only.refl _ _ _)
  clear h hk hs ha hn hl hw
  subst hkv
  go_enter Tryz.func25, Tryz.ntmps25
  go_wp2_with fail
  refine (files_any d m { S with on := false, fused := false } _ H1.out HS.out HA.out HN.out HL.out).mono ?_
  rintro e w1 ⟨v, rfl, hv, hb1⟩
  have HV := Lib.hid hv
  have hlen : (namesOf S.files).length ≤ 1000 := by rw [namesOf_length]; exact HL.out
  obtain ⟨a, cap, rfl, -⟩ := hv.shape
  change Strs w1 (.slice a (namesOf S.files).length cap) (namesOf S.files) at hv
  generalize hN : namesOf S.files = names at *
  go_wp2
  go_loopw [23] (fun iv wr => ∃ (i : Nat) (L : List FE), i ≤ names.length ∧ iv = .int .i64 i ∧ IsDisk wr d m { S with on := false, fused := false, files := L } ∧ Only d m w wr ∧ Only d m w1 wr ∧ L.map (·.name) = S.files.map (·.name) ∧ Whole L ∧ crashAll keep (names.drop i) i L = crashAll keep names 0 S.files) (fun iv _ => names.length - (intOf iv).toNat)
  case atStart => exact ⟨0, S.files, Nat.zero_le _, rfl, H1.out.later hb1, HO.out.trans (Only.of_below hb1), Only.refl _ _ _, rfl, HW.out, by rw [List.drop_zero]⟩
  case round =>
    obtain ⟨i, L, hi, rfl, hd, ho, ho1, hnm, hwh, hcr⟩ := hrel
    by_cases hin : i < names.length
    case neg =>
      have hend : names.drop i = [] := List.drop_of_length_le (by omega)
      rw [hend] at hcr
      have hcr' : L = crashAll keep names 0 S.files := hcr
      have hD : IsDisk wr d m (S.crash keep) := by
        unfold St.crash
        rw [hN, ← hcr']; exact hd
      have HDD := Lib.hid hD
      have htest : decide ((i : Int) < (names.length : Int)) = false := decide_eq_false (by omega)
      clear hcr hcr' hend hD hd
      go_wp2
      go_end0
      exact ⟨rfl, HDD.out, ho⟩
    have htest : decide ((i : Int) < (names.length : Int)) = true := decide_eq_true (by omega)
    have hhas : has L names[i] = true := by
      rw [has_names, hnm, ← has_names, ← mem_namesOf, hN]; exact List.getElem_mem hin
    obtain ⟨b, off, cap', he, hne, -, hcell⟩ := (HV.out.only (H1.out.later hb1) ho1).cases.resolve_left (fun h => by rw [h.1] at hin; exact absurd hin (by simp))
    injection he with he1 he2 he3
    subst he1 he3
    have hci := hcell i hin
    obtain ⟨fp, f, fq, hLe, hf, hfp⟩ := has_true hhas
    have hLa : Apart L := by rw [apart_names, hnm, ← apart_names]; exact HA.out
    have hfm : f ∈ L := by rw [hLe]; simp
    have hstep : crashAll keep (names.drop (i + 1)) (i + 1) (upd L names[i] (crashFE keep i)) = crashAll keep names 0 S.files := by
      rw [← hcr, List.drop_eq_getElem_cons hin]; rfl
    have hr : (Instr.lookup 45 (.map (some m)) (.string names[i]) false).run Tryz.prog wr = .ok (.agg #[.string f.data, .int .i64 (f.synced : Int)]) wr := by
      have hb := hd.map
      rw [show ({ S with on := false, fused := false, files := L } : St).files = L from rfl, hLe] at hb
      exact run_look_hit1 (P := Tryz.prog) (w := wr) (m := m) (clock := S.clock) Tryz.underlying45 Tryz.underlying9 fp fq f hb names[i] hf hfp
    have hst0 : ∀ W : World, W.heap[m]? = some (mapOf L S.clock) → (Instr.mapUpdate 45 (.map (some m)) (.string names[i]) (.agg #[.string (f.data.extract 0 (f.synced + keptAt keep i f)), .int .i64 ((f.data.extract 0 (f.synced + keptAt keep i f)).size : Int)])).run Tryz.prog W = .ok () (World.put W m (mapOf (upd L names[i] (crashFE keep i)) S.clock)) := fun W hb => by
      have hsz : (f.data.extract 0 (f.synced + keptAt keep i f)).size = f.synced + keptAt keep i f := by
        have := keptAt_le keep i f (hwh f hfm).1
        rw [ByteArray.size_extract]; omega
      rw [hsz]
      rw [hLe] at hb hLa ⊢
      rw [← hf, upd_hit (crashFE keep i) rfl hLa.mid.1 hLa.mid.2]
      exact run_store_hit (P := Tryz.prog) (w := W) (m := m) (clock := S.clock) Tryz.underlying45 Tryz.underlying9 fp fq f hb (by rw [hf]; exact hfp) _ _
    generalize hdata : f.data.extract 0 (f.synced + keptAt keep i f) = data at *
    have hsy : (f.synced : Int) ≤ (f.data.size : Int) := by have := (hwh f hfm).1; omega
    have hsz : (f.data.size : Int) ≤ 1000000000 := by have := (hwh f hfm).2; omega
    have c4 := hd.facts.2.2.2.2.1
    have HD := Lib.hid hd
    clear hf hfp hhas hne hcell hd hLa hLe
    by_cases hik : i < keep.length
    case neg =>
      have htk : decide ((i : Int) < (keep.length : Int)) = false := decide_eq_false (by omega)
      have HK0 := Lib.hid (show keptAt keep i f = 0 by unfold keptAt; rw [List.getElem?_eq_none (by omega)])
      go_wp2_with fail
      refine (clone_any _ _ (by have := (hwh f hfm).2; simp only [ByteArray.size_extract]; omega)).mono ?_
      rintro e w2 ⟨rfl, hb2⟩
      have hB2 := below_step (below_alloc (Below.refl _ wr) _) hb2
      have hd2 := HD.out.later hB2
      have c42 := hd2.facts.2.2.2.2.1
      have hm2 := hd2.map
      have hext : f.data.extract 0 f.synced = data := by rw [← hdata]; rw [HK0.out, Nat.add_zero]
      rw [hext]
      have hst := hst0 w2 hm2
      go_wp2
      go_roundw
      case rel =>
        exact ⟨i + 1, upd L names[i] (crashFE keep i), hin, rfl, hd2.setFiles _ _, (ho.trans (Only.of_below hB2)).put _, (ho1.trans (Only.of_below hB2)).put _, (upd_names L names[i] (crashFE keep i) (fun _ => rfl)).trans hnm, hwh.crash keep i _, hstep⟩
      case measure =>
        show names.length - ((i + 1 : Nat) : Int).toNat < names.length - (i : Int).toNat; omega
    have htk : decide ((i : Int) < (keep.length : Int)) = true := decide_eq_true (by omega)
    obtain ⟨ka', kc', hke, hkc⟩ := HK.out wr ho
    injection hke with hk1 hk2 hk3
    subst hk1 hk3
    obtain ⟨kb, koff, rfl, -, hkci⟩ := hkc i hik
    have hkca := cell_later hkci (below_alloc (Below.refl _ wr) (.cells #[.string f.data, .int .i64 (f.synced : Int)] 81))
    have hkept : keptAt keep i f = (keep[i] % ((f.data.size : Int) - (f.synced : Int) + 1)).toNat := by unfold keptAt; rw [List.getElem?_eq_getElem hik]
    have hNpos : (0 : Int) < (f.data.size : Int) - (f.synced : Int) + 1 := by omega
    have hR1 := Int.tmod_lt_of_pos keep[i] hNpos
    have hR2 := Int.lt_tmod_of_pos keep[i] hNpos
    by_cases hneg : keep[i].tmod ((f.data.size : Int) - (f.synced : Int) + 1) < 0
    · have htn : decide (keep[i].tmod ((f.data.size : Int) - (f.synced : Int) + 1) < 0) = true := decide_eq_true hneg
      have HK1 := Lib.hid (show (keptAt keep i f : Int) = keep[i].tmod ((f.data.size : Int) - (f.synced : Int) + 1) + ((f.data.size : Int) - (f.synced : Int) + 1) by rw [hkept, emod_of_neg _ _ hNpos hneg]; omega)
      go_wp2_with fail
      refine (clone_any _ _ (by have := (hwh f hfm).2; simp only [ByteArray.size_extract]; omega)).mono ?_
      rintro e w2 ⟨rfl, hb2⟩
      have hB2 := below_step (below_alloc (Below.refl _ wr) _) hb2
      have hd2 := HD.out.later hB2
      have c42 := hd2.facts.2.2.2.2.1
      have hm2 := hd2.map
      have hext : f.data.extract 0 ((f.synced : Int) + (keep[i].tmod ((f.data.size : Int) - (f.synced : Int) + 1) + ((f.data.size : Int) - (f.synced : Int) + 1))).toNat = data := by rw [← hdata]; have := HK1.out; congr 1; omega
      rw [hext]
      have hst := hst0 w2 hm2
      go_wp2
      go_roundw
      case rel =>
        exact ⟨i + 1, upd L names[i] (crashFE keep i), hin, rfl, hd2.setFiles _ _, (ho.trans (Only.of_below hB2)).put _, (ho1.trans (Only.of_below hB2)).put _, (upd_names L names[i] (crashFE keep i) (fun _ => rfl)).trans hnm, hwh.crash keep i _, hstep⟩
      case measure =>
        show names.length - ((i + 1 : Nat) : Int).toNat < names.length - (i : Int).toNat; omega
    · have htn : decide (keep[i].tmod ((f.data.size : Int) - (f.synced : Int) + 1) < 0) = false := decide_eq_false hneg
      have HK1 := Lib.hid (show (keptAt keep i f : Int) = keep[i].tmod ((f.data.size : Int) - (f.synced : Int) + 1) by rw [hkept, emod_of_nonneg _ _ hNpos (by omega)]; omega)
      go_wp2_with fail
      refine (clone_any _ _ (by have := (hwh f hfm).2; simp only [ByteArray.size_extract]; omega)).mono ?_
      rintro e w2 ⟨rfl, hb2⟩
      have hB2 := below_step (below_alloc (Below.refl _ wr) _) hb2
      have hd2 := HD.out.later hB2
      have c42 := hd2.facts.2.2.2.2.1
      have hm2 := hd2.map
      have hext : f.data.extract 0 ((f.synced : Int) + keep[i].tmod ((f.data.size : Int) - (f.synced : Int) + 1)).toNat = data := by rw [← hdata]; have := HK1.out; congr 1; omega
      rw [hext]
      have hst := hst0 w2 hm2
      go_wp2
      go_roundw
      case rel =>
        exact ⟨i + 1, upd L names[i] (crashFE keep i), hin, rfl, hd2.setFiles _ _, (ho.trans (Only.of_below hB2)).put _, (ho1.trans (Only.of_below hB2)).put _, (upd_names L names[i] (crashFE keep i) (fun _ => rfl)).trans hnm, hwh.crash keep i _, hstep⟩
      case measure =>
        show names.length - ((i + 1 : Nat) : Int).toNat < names.length - (i : Int).toNat; omega

end Go.Proofs.YtncpeaamfmfcgaaGreat
