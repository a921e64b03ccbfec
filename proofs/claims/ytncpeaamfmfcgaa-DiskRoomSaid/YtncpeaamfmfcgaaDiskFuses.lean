/- DiskFuses: the power fails at just the operation that was asked; what came ahead of it was done. -/
import Derived.Test.YtncpeaamfmfcgaaDiskOne
namespace Go.Proofs.Ytncpeaamfmfcgaa
open Go.RowKit

/-- The i-th name. -/
def nm (i : Nat) : ByteArray := ⟨#[102, UInt8.ofNat (48 + i)]⟩
theorem nm_size (i : Nat) : (nm i).size = 2 := rfl
theorem nm_valid (i : Nat) : validB (nm i) = true := by unfold validB; rw [nm_size]; decide
theorem nm_inj {i j : Nat} (hi : i < 200) (hj : j < 200) (h : nm i = nm j) : i = j := by
  have h1 := congrArg (fun x : ByteArray => x.data[1]?.map UInt8.toNat) h
  simp only [nm] at h1
  simp only [List.getElem?_toArray, List.getElem?_cons_succ, List.getElem?_cons_zero, Option.map_some, UInt8.toNat_ofNat', Option.some.injEq] at h1
  omega
theorem nm_cells (i : Nat) (hi : i < 200) (w : World) (e : TypeId) : ∀ j (hj : j < [102, UInt8.ofNat (48 + i)].length),
    (w.alloc (.cells #[.int .u8 102, .int .u8 (48 + (i : Int))] e)).cell? ((⟨w.heap.size, 0, none⟩ : Addr).add j) = some (.int .u8 (([102, UInt8.ofNat (48 + i)][j]).toNat : Int)) := by
  intro j hj
  have hj2 : j < 2 := hj
  have hadd : (⟨w.heap.size, 0, none⟩ : Addr).add j = ⟨w.heap.size, j, none⟩ := by unfold Addr.add; split <;> simp_all
  rw [hadd, World.cell?_alloc_at _ _ _ _ rfl]
  match j, hj2 with
  | 0, _ => rfl
  | 1, _ => show some (Value.int .u8 (48 + (i : Int))) = some (.int .u8 ((UInt8.ofNat (48 + i)).toNat : Int)); rw [UInt8.toNat_ofNat']; congr 2; omega

def filesN (i : Nat) : List FE := (List.range i).map fun j => newFE (nm j) j
theorem filesN_succ (i : Nat) : filesN (i + 1) = filesN i ++ [newFE (nm i) i] := by
  unfold filesN; rw [List.range_succ, List.map_append]; rfl
theorem filesN_length (i : Nat) : (filesN i).length = i := by unfold filesN; rw [List.length_map, List.length_range]
theorem mem_filesN {i : Nat} {f : FE} (h : f ∈ filesN i) : ∃ j, j < i ∧ f = newFE (nm j) j := by
  obtain ⟨j, hj, rfl⟩ := List.mem_map.1 h
  exact ⟨j, List.mem_range.1 hj, rfl⟩
theorem has_filesN (i : Nat) (hi : i < 200) : has (filesN i) (nm i) = false := by
  unfold has
  rw [List.any_eq_false]
  intro f hf
  obtain ⟨j, hj, rfl⟩ := mem_filesN hf
  rw [decide_eq_true_iff]
  intro h
  have := nm_inj (by omega) hi h
  omega
theorem filesN_apart (i : Nat) (hi : i < 200) : Apart (filesN i) := by
  unfold Apart filesN
  rw [List.pairwise_map]
  refine List.Pairwise.imp_of_mem ?_ (List.nodup_range (n := i))
  intro a b ha hb hab h
  exact hab (nm_inj (by have := List.mem_range.1 ha; omega) (by have := List.mem_range.1 hb; omega) h)
theorem filesN_stamps (i : Nat) : Stamps (filesN i) i := by
  refine ⟨fun f hf => ?_, ?_⟩
  · obtain ⟨j, hj, rfl⟩ := mem_filesN hf; exact hj
  · unfold filesN; rw [List.map_map]
    have : (List.range i).map ((fun x => x.born) ∘ fun j => newFE (nm j) j) = List.range i := List.map_id _
    rw [this]; exact List.nodup_range
theorem filesN_size (i : Nat) : sizeAll (filesN i) = 0 := by
  induction i with
  | zero => rfl
  | succ i ih => rw [filesN_succ, sizeAll_append, ih]; rfl
theorem filesN_ok {S : St} {i : Nat} (hi : i ≤ 40) (hf : S.files = filesN i) (hc : S.clock = i) (h : S.Fits) : S.Ok := by
  refine ⟨h, hf ▸ filesN_apart i (by omega), by rw [hf, hc]; exact filesN_stamps i, ?_, ?_, ?_, ?_⟩
  · intro f hm; rw [hf] at hm; obtain ⟨j, _, rfl⟩ := mem_filesN hm; show (nm j).size ≤ 40; rw [nm_size]; omega
  · rw [hf, filesN_length]; exact hi
  · rw [hf, filesN_size]; omega
  · intro f hm; rw [hf] at hm; obtain ⟨j, _, rfl⟩ := mem_filesN hm; exact Nat.zero_le _

def fusedS (n i : Nat) : St := ⟨true, true, (n : Int) - i, i, filesN i, i⟩
def offS (n : Nat) : St := ⟨false, false, 0, n + 1, filesN n, n⟩
theorem fusedS_fits {n i : Nat} (hn : n ≤ 40) (hi : i ≤ n) : (fusedS n i).Fits := by
  refine ⟨?_, ?_, ?_⟩
  · show i ≤ _; omega
  · show (-9223372036854775808 : Int) ≤ (n : Int) - i; omega
  · show (n : Int) - i ≤ 9223372036854775807; omega
theorem fuses_create {n i : Nat} (hn : n ≤ 39) (hi : i < n) : (fusedS n i).create (nm i) = (0, fusedS n (i + 1)) := by
  have hf : (fusedS n i).fails = false := by
    unfold St.fails fusedS; simp; omega
  have he : createErr (fusedS n i) (nm i) = 0 := by
    unfold createErr
    rw [nm_valid, if_pos rfl, show has (fusedS n i).files (nm i) = false from has_filesN i (by omega), if_neg (by simp), if_neg]
    show ¬ 40 ≤ (filesN i).length; rw [filesN_length]; omega
  refine (does_ok rfl hf he).trans ?_
  have hm : min (i + 1) 4611686018427387904 = i + 1 := by omega
  have hp : (0 : Int) < (n : Int) - i := by omega
  have e : (fusedS n i).op = ⟨true, true, (n : Int) - i - 1, i + 1, filesN i, i⟩ := by
    have hq : i < n := by omega
    simp [St.op, fusedS, hm, hq]
  rw [e]
  show (0, (⟨true, true, (n : Int) - i - 1, i + 1, filesN i ++ [newFE (nm i) i], i + 1⟩ : St)) = (0, ⟨true, true, (n : Int) - (i + 1 : Nat), i + 1, filesN (i + 1), i + 1⟩)
  rw [filesN_succ, show (n : Int) - i - 1 = (n : Int) - (i + 1 : Nat) by omega]
theorem fuses_last {n : Nat} (hn : n ≤ 39) : (fusedS n n).create (nm n) = (14, offS n) := by
  have hf : (fusedS n n).fails = true := by unfold St.fails fusedS; simp
  refine (does_fails rfl hf).trans ?_
  have hm : min (n + 1) 4611686018427387904 = n + 1 := by omega
  simp [St.op, fusedS, offS, hm]

theorem fuses_create_any {d m n i : Nat} (hn : n ≤ 39) (hi : i < n) (w : World) (h : IsDisk w d m (fusedS n i)) :
    Calls Try.prog 11 #[.pointer (some ⟨d, 0, none⟩), .string (nm i)] w fun e w' => e = .returned (.int .i64 0) ∧ IsDisk w' d m (fusedS n (i + 1)) ∧ Only d m w w' := by
  have k := create_any d m _ (nm i) w h (by rw [nm_size]; omega) (fusedS_fits (by omega) (by omega))
  rw [fuses_create hn hi] at k
  exact k
theorem fuses_last_any {d m n : Nat} (hn : n ≤ 39) (w : World) (h : IsDisk w d m (fusedS n n)) :
    Calls Try.prog 11 #[.pointer (some ⟨d, 0, none⟩), .string (nm n)] w fun e w' => e = .returned (.int .i64 14) ∧ IsDisk w' d m (offS n) ∧ Only d m w w' := by
  have k := create_any d m _ (nm n) w h (by rw [nm_size]; omega) (fusedS_fits (by omega) (by omega))
  rw [fuses_last hn] at k
  exact k
theorem offS_ok {n : Nat} (hn : n ≤ 39) : (offS n).Ok :=
  filesN_ok (i := n) (by omega) rfl rfl ⟨by show n + 1 ≤ _; omega, by show (-9223372036854775808 : Int) ≤ 0; omega, by show (0 : Int) ≤ 9223372036854775807; omega⟩
theorem offS_files_any {d m n : Nat} (hn : n ≤ 39) (w : World) (h : IsDisk w d m (offS n)) :
    Calls Try.prog 21 #[.pointer (some ⟨d, 0, none⟩)] w fun e w' => ∃ a cap, e = .returned (.slice a n cap) ∧ Below w.heap.size w w' := by
  have hO := offS_ok hn
  refine (files_any d m _ w h hO.stamps hO.apart hO.names (by have := hO.few; omega)).mono fun e w' ⟨v, he, hv, hb⟩ => ?_
  obtain ⟨a, cap, hv, -⟩ := hv.shape
  rw [namesOf_length, show (offS n).files.length = n from filesN_length n] at hv
  subst hv
  exact ⟨a, cap, he, hb⟩
theorem offS_sync_any {d m n : Nat} (hn : n ≤ 39) (s : ByteArray) (w : World) (h : IsDisk w d m (offS n)) :
    Calls Try.prog 13 #[.pointer (some ⟨d, 0, none⟩), .string s] w fun e w' => e = .returned (.int .i64 14) ∧ IsDisk w' d m (offS n) ∧ Only d m w w' := by
  have hO := offS_ok hn
  exact sync_any d m _ s w h hO.fits hO.apart

set_option maxHeartbeats 4000000 in
set_option maxRecDepth 100000 in
theorem walk_fuses (w0 : World) (k : Int) (hk : -9223372036854775808 ≤ k ∧ k ≤ 9223372036854775807) :
    Calls Try.prog 5 #[.int .i64 k] w0 fun e w' => e = .returned (.bool true) ∧ Below w0.heap.size w0 w' := by
  obtain ⟨hk1, hk2⟩ := hk
  by_cases h1 : k < 0
  · have t1 : decide (k < 0) = true := decide_eq_true h1
    go_enter Try.func5, Try.ntmps5
    go_wp2_with fail
    refine (alive_any _).mono ?_
    rintro e w3 ⟨rfl, hb3⟩
    go_wp2
    go_ret
    exact ⟨rfl, hb3⟩
  have t1 : decide (k < 0) = false := decide_eq_false h1
  by_cases h2 : 39 < k
  · have t2 : decide (39 < k) = true := decide_eq_true h2
    go_enter Try.func5, Try.ntmps5
    go_wp2_with fail
    refine (alive_any _).mono ?_
    rintro e w3 ⟨rfl, hb3⟩
    go_wp2
    go_ret
    exact ⟨rfl, hb3⟩
  have t2 : decide (39 < k) = false := decide_eq_false h2
  obtain ⟨n, rfl⟩ := Int.eq_ofNat_of_zero_le (show 0 ≤ k by omega)
  have hn : n ≤ 39 := by omega
  have hn' : (n : Int) ≤ 39 := by omega
  clear h1 h2 hk1 hk2
  go_enter Try.func5, Try.ntmps5
  go_wp2_with fail
  refine (new_ex _).mono ?_
  rintro e w1 ⟨d, m, hd, hm, rfl, hd1, hb1⟩
  have HD1 := Lib.hid hd1
  clear hd1
  go_wp2_with fail
  refine (fuse_any d m _ n _ HD1.out).mono ?_
  rintro e w2 ⟨rfl, hd2, ho2⟩
  have hd2' : IsDisk w2 d m (fusedS n 0) := by
    have e0 : decide ((0 : Int) ≤ n) = true := decide_eq_true (by omega)
    rw [e0] at hd2
    have e1 : fusedS n 0 = { St.new with fused := true, left := n } := by simp [fusedS, St.new, filesN]
    rw [e1]; exact hd2
  have HD2 := Lib.hid hd2'
  clear hd2 hd2'
  go_wp2
  go_loopw [4, 5] (fun c iv wr => Only d m w2 wr ∧ ((∃ i : Nat, i ≤ n ∧ c = .int .i64 i ∧ iv = .int .i64 i ∧ IsDisk wr d m (fusedS n i)) ∨ (c = .int .i64 n ∧ iv = .int .i64 ((n + 1 : Nat) : Int) ∧ IsDisk wr d m (offS n)))) (fun _ iv _ => 41 - (intOf iv).toNat)
  case atStart => exact ⟨Only.refl _ _ _, .inl ⟨0, Nat.zero_le _, rfl, rfl, HD2.out⟩⟩
  case round =>
    obtain ⟨ho, ⟨i, hi, rfl, rfl, hd3⟩ | ⟨rfl, rfl, hd3⟩⟩ := hrel
    · have HD3 := Lib.hid hd3
      clear hd3
      have hi' : (i : Int) ≤ 39 := by omega
      have ti : decide ((i : Int) < 40) = true := decide_eq_true (by omega)
      have hcv := run_convert_bytes_back (P := Try.prog) _ 32 9 5 ⟨wr.heap.size, 0, none⟩ 2 [102, UInt8.ofNat (48 + i)] Try.underlying32 Try.underlying5 Try.underlying9 (nm_cells i (by omega) wr 5)
      rw [show (⟨[102, UInt8.ofNat (48 + i)].toArray⟩ : ByteArray) = nm i from rfl] at hcv
      simp only [List.length_cons, List.length_nil, Nat.reduceAdd] at hcv
      have hbA := below_alloc (Below.refl _ wr) (.cells #[.int .u8 102, .int .u8 (48 + (i : Int))] 5)
      rcases Nat.lt_or_ge i n with hin | hin
      · go_wp2_with (first
          | (go_at_call 19; refine (on_any d m _ _ HD3.out).mono ?_; rintro e w4 ⟨rfl, rfl⟩; rw [show (fusedS n i).on = true from rfl])
          | (go_at_call 11; refine (fuses_create_any hn hin _ (HD3.out.later hbA)).mono ?_; rintro e w5 ⟨rfl, hd5, ho5⟩))
        go_roundw
        case rel => exact ⟨ho.trans ((Only.of_below hbA).trans ho5), .inl ⟨i + 1, hin, rfl, rfl, hd5⟩⟩
        case measure => show 41 - ((i + 1 : Nat) : Int).toNat < 41 - (i : Int).toNat; omega
      · obtain rfl : i = n := Nat.le_antisymm hi hin
        go_wp2_with (first
          | (go_at_call 19; refine (on_any d m _ _ HD3.out).mono ?_; rintro e w4 ⟨rfl, rfl⟩; rw [show (fusedS i i).on = true from rfl])
          | (go_at_call 11; refine (fuses_last_any hn _ (HD3.out.later hbA)).mono ?_; rintro e w5 ⟨rfl, hd5, ho5⟩))
        go_roundw
        case rel => exact ⟨ho.trans ((Only.of_below hbA).trans ho5), .inr ⟨rfl, rfl, hd5⟩⟩
        case measure => show 41 - ((i + 1 : Nat) : Int).toNat < 41 - (i : Int).toNat; omega
    · have HD3 := Lib.hid hd3
      clear hd3
      have hcast : (((n + 1 : Nat) : Nat) : Int) = (n : Int) + 1 := rfl
      rcases Nat.lt_or_ge (n + 1) 40 with h40 | h40
      · have ti : decide (((n + 1 : Nat) : Int) < 40) = true := decide_eq_true (by omega)
        rw [hcast] at ti ⊢
        go_wp2_with (first
          | (go_at_call 19; refine (on_any d m _ _ HD3.out).mono ?_; rintro e w4 ⟨rfl, rfl⟩; rw [show (offS n).on = false from rfl]))
        go_wp2_with (first
          | (go_at_call 9; refine (alive_any _).mono ?_; rintro e w6 ⟨rfl, hb6⟩; have HD6 := Lib.hid (HD3.out.later hb6))
          | (go_at_call 20; refine (ops_any d m _ _ HD8.out).mono ?_; rintro e w9 ⟨rfl, rfl⟩; rw [show (((offS n).ops : Nat) : Int) = (n : Int) + 1 from rfl])
          | (go_at_call 20; refine (ops_any d m _ _ HD6.out).mono ?_; rintro e w7 ⟨rfl, rfl⟩; rw [show (((offS n).ops : Nat) : Int) = (n : Int) + 1 from rfl])
          | (go_at_call 19; refine (on_any d m _ _ HD6.out).mono ?_; rintro e w7 ⟨rfl, rfl⟩; rw [show (offS n).on = false from rfl])
          | (go_at_call 21; refine (offS_files_any hn _ HD6.out).mono ?_; rintro e w7 ⟨fa, fc, rfl, hb7⟩; have HD7 := Lib.hid (HD6.out.later hb7))
          | (go_at_call 13; refine (offS_sync_any hn _ _ HD7.out).mono ?_; rintro e w8 ⟨rfl, hd8, ho8⟩; have HD8 := Lib.hid hd8; clear hd8))
        go_ret
        exact ⟨rfl, (ho2.trans (ho.trans ((Only.of_below (below_step hb6 hb7)).trans ho8))).below hb1 hb1.size hd hm⟩
      · have ti : decide (((n + 1 : Nat) : Int) < 40) = false := decide_eq_false (by omega)
        rw [hcast] at ti ⊢
        go_wp2_with (first
          | (go_at_call 9; refine (alive_any _).mono ?_; rintro e w6 ⟨rfl, hb6⟩; have HD6 := Lib.hid (HD3.out.later hb6))
          | (go_at_call 20; refine (ops_any d m _ _ HD8.out).mono ?_; rintro e w9 ⟨rfl, rfl⟩; rw [show (((offS n).ops : Nat) : Int) = (n : Int) + 1 from rfl])
          | (go_at_call 20; refine (ops_any d m _ _ HD6.out).mono ?_; rintro e w7 ⟨rfl, rfl⟩; rw [show (((offS n).ops : Nat) : Int) = (n : Int) + 1 from rfl])
          | (go_at_call 19; refine (on_any d m _ _ HD6.out).mono ?_; rintro e w7 ⟨rfl, rfl⟩; rw [show (offS n).on = false from rfl])
          | (go_at_call 21; refine (offS_files_any hn _ HD6.out).mono ?_; rintro e w7 ⟨fa, fc, rfl, hb7⟩; have HD7 := Lib.hid (HD6.out.later hb7))
          | (go_at_call 13; refine (offS_sync_any hn _ _ HD7.out).mono ?_; rintro e w8 ⟨rfl, hd8, ho8⟩; have HD8 := Lib.hid hd8; clear hd8))
        go_ret
        exact ⟨rfl, (ho2.trans (ho.trans ((Only.of_below (below_step hb6 hb7)).trans ho8))).below hb1 hb1.size hd hm⟩

end Go.Proofs.Ytncpeaamfmfcgaa
