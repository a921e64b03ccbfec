/- wire: a writer's numbers. -/
import Derived.Test.YtncpeaamfmfcgaaGreatLib
import Derived.Test.YtncpeaamfmfcgaaGreatSumNum
import Derived.Test.YtncpeaamfmfcgaaGreatDisk
import Derived.Laws.IdiomRangeMap
namespace Go.Proofs.YtncpeaamfmfcgaaGreat
open Go.RowKit

/-- A number's bytes, the low seven bits first. -/
def varint (n : Nat) : List UInt8 := if _h : n < 128 then [UInt8.ofNat n] else UInt8.ofNat (n % 128 + 128) :: varint (n / 128)
termination_by n
decreasing_by omega
theorem varint_small {n : Nat} (h : n < 128) : varint n = [UInt8.ofNat n] := by unfold varint; rw [dif_pos h]
theorem varint_big {n : Nat} (h : ¬ n < 128) : varint n = UInt8.ofNat (n % 128 + 128) :: varint (n / 128) := by
  conv => lhs; unfold varint
  rw [dif_neg h]

theorem varint_length (n : Nat) : (varint n).length ≤ n + 1 := by
  induction n using Nat.strongRecOn with
  | ind n ih =>
    by_cases h : n < 128
    · rw [varint_small h]; simp
    · rw [varint_big h, List.length_cons]
      have := ih (n / 128) (by omega)
      omega

def byteV (b : UInt8) : Value := .int .u8 (b.toNat : Int)
/-- Block g is a writer that holds xs; its row of bytes is the call's own (from block B on). -/
def IsWriter (B : Nat) (w : World) (g : Nat) (xs : List UInt8) : Prop :=
  ∃ bv, w.heap[g]? = some (.cells #[.int .i64 0, bv] 126 (0, 0)) ∧ w.ownsRow B 5 1 bv xs.length (xs.map byteV)

theorem infoU8 : (Tryz.prog.info? 5).map (fun i => (i.zero, i.size, i.bytes)) = some (some (.int .u8 0), 1, 1) := by kernel_rfl

theorem own_ne {B : Nat} {w : World} {g n : Nat} {bv : Value} {cs : Array Value} {xs : List Value} (hh : w.heap[g]? = some (.cells cs 126 (0, 0))) (hown : w.ownsRow B 5 1 bv n xs) : bv.ownBlock ≠ some g := by
  rcases hown.2 with ⟨rfl, -⟩ | ⟨g', cap, cur, rfl, -, hg, -⟩
  · intro h; cases h
  · intro h
    injection h with h
    subst h
    rw [hh] at hg
    injection hg with hg
    injection hg with _ h2 _
    exact absurd h2 (by decide)

set_option maxRecDepth 100000 in
/-- A byte more, behind the others: what the append does. -/
theorem writer_push {B : Nat} {w : World} {g : Nat} {ys : List UInt8} {bv : Value} (hh : w.heap[g]? = some (.cells #[.int .i64 0, bv] 126 (0, 0))) (hown : w.ownsRow B 5 1 bv ys.length (ys.map byteV)) (hB : B ≤ w.heap.size) (c : UInt8) (k : Int) (hk : k = (c.toNat : Int)) (hy : ys.length ≤ 10000000) :
    ∃ u' w', (Builtin.append_ #[48, 48] 48 #[bv, .slice (some ⟨w.heap.size, 0, none⟩) 1 1]).run Tryz.prog (w.alloc (.cells #[.int .u8 k] 5)) = .ok u' w' ∧
      w'.heap[g]? = some (.cells #[.int .i64 0, bv] 126 (0, 0)) ∧ w'.ownsRow B 5 1 u' (ys ++ [c]).length ((ys ++ [c]).map byteV) ∧ Below B w w' ∧ u'.ownBlock ≠ some g := by
  obtain ⟨i0, hi, hz0, hz1, hz2⟩ := info_parts infoU8
  have hlt := (Array.getElem?_eq_some_iff.1 hh).1
  have hne := own_ne hh hown
  obtain ⟨u', w', h1, h2, h3, -⟩ := run_append_own (P := Tryz.prog) (w.alloc (.cells #[.int .u8 k] 5)) B 48 48 5 i0 (.int .u8 0) 1 1 Tryz.underlying48 hi hz0 hz1 hz2 rfl (by decide) bv ys.length (ys.map byteV) (hown.alloc _) ⟨w.heap.size, 0, none⟩ 1 1 [.int .u8 k] rfl
    (fun j u hj => by
      match j, hj with
      | 0, hj =>
        injection hj with hj
        subst hj
        show (w.alloc _).cell? ((⟨w.heap.size, 0, none⟩ : Addr).add 0) = _
        rw [show (⟨w.heap.size, 0, none⟩ : Addr).add 0 = ⟨w.heap.size, 0, none⟩ from rfl, World.cell?_alloc_at _ _ _ _ rfl]; rfl)
    (fun u hu => by obtain rfl := List.mem_singleton.1 hu; rfl) (by unfold maxLen; omega) (by omega) (by simp; omega)
  have hg : w'.heap[g]? = some (.cells #[.int .i64 0, bv] 126 (0, 0)) := by
    rw [h3.block g (by simp; omega) (fun q => hne q.symm), Go.heap_alloc_old _ _ hlt]; exact hh
  have h2' : w'.ownsRow B 5 1 u' (ys ++ [c]).length ((ys ++ [c]).map byteV) := by
    rw [List.length_append, List.map_append]
    subst hk
    exact h2
  refine ⟨u', w', h1, hg, h2', ?_, own_ne hg h2'⟩
  have hA : Below B w (w.alloc (.cells #[.int .u8 k] 5)) := (Below.refl B w).alloc hB _
  refine ⟨h3.os.trans hA.os, h3.tape.trans hA.tape, h3.output.trans hA.output, Nat.le_trans hA.size h3.size, fun j hj => (h3.block j (by simp; omega) ?_).trans (hA.block j hj)⟩
  intro q
  have := (hown.lt j q.symm).1
  omega

theorem own_slice {w : World} {B e k n : Nat} {v : Value} {xs : List Value} (h : w.ownsRow B e k v n xs) : ∃ ao m cap, v = .slice ao m cap := by
  rcases h.2 with ⟨rfl, -⟩ | ⟨g, cap, cur, rfl, -⟩
  · exact ⟨_, _, _, rfl⟩
  · exact ⟨_, _, _, rfl⟩

theorem xor_zero (x : Nat) (hx : x < 18446744073709551616) : bits .xor .u64 (x : Int) 0 = (x : Int) := by
  have e : (BitVec.ofInt 64 (x : Int) ^^^ BitVec.ofInt 64 0).toNat = x := by
    rw [BitVec.toNat_xor, ofInt_u64 x (by omega), show (BitVec.ofInt 64 0).toNat = 0 from rfl, Nat.xor_zero]
  show IntKind.u64.wrap ((BitVec.ofInt 64 (x : Int) ^^^ BitVec.ofInt 64 0).toNat : Int) = _
  rw [e, IntKind.wrap_u64]
  omega

theorem writer_cells {w : World} {g : Nat} {bv : Value} (hh : w.heap[g]? = some (.cells #[.int .i64 0, bv] 126 (0, 0))) :
    w.cell? ⟨g, 0, none⟩ = some (.int .i64 0) ∧ w.cell? ⟨g, 1, none⟩ = some bv ∧ w.frozen? ⟨g, 1, none⟩ = false := by
  simp [World.cell?, World.frozen?, hh]
theorem writer_set {B : Nat} {w : World} {g : Nat} {bv u : Value} {ys : List UInt8} (hh : w.heap[g]? = some (.cells #[.int .i64 0, bv] 126 (0, 0))) (hown : w.ownsRow B 5 1 u ys.length (ys.map byteV)) (hne : u.ownBlock ≠ some g) (hg : B ≤ g) :
    IsWriter B (w.setCell ⟨g, 1, none⟩ u) g ys ∧ Below B w (w.setCell ⟨g, 1, none⟩ u) := by
  have hlt := (Array.getElem?_eq_some_iff.1 hh).1
  have hb : ∀ k, k ≠ g → (w.setCell ⟨g, 1, none⟩ u).heap[k]? = w.heap[k]? := fun k hk => Below.heap_setCell _ _ _ _ hk
  refine ⟨⟨u, ?_, hown.kept ⟨rfl, rfl, rfl, by simp [World.setCell], fun k _ hk => hb k fun q => hk (by rw [q])⟩ (.inr hne)⟩, ⟨rfl, rfl, rfl, by simp [World.setCell], fun k hk => hb k (by omega)⟩⟩
  exact setCell_row hh u
theorem IsWriter.alloc {B : Nat} {w : World} {g : Nat} {xs : List UInt8} (h : IsWriter B w g xs) (o : Obj) : IsWriter B (w.alloc o) g xs := by
  obtain ⟨bv, h1, h2⟩ := h
  exact ⟨bv, (Go.heap_alloc_old _ _ (Array.getElem?_eq_some_iff.1 h1).1).trans h1, h2.alloc _⟩

theorem or128 (n : Nat) : bits .or .u8 ((n : Int) % 256) 128 = ((UInt8.ofNat (n % 128 + 128)).toNat : Int) := by
  have key : ∀ m : Fin 256, bits .or .u8 ((m.val : Int)) 128 = ((UInt8.ofNat (m.val % 128 + 128)).toNat : Int) := by decide +kernel
  have h := key ⟨n % 256, by omega⟩
  simp only at h
  rw [show (n : Int) % 256 = ((n % 256 : Nat) : Int) by omega, h, show n % 256 % 128 = n % 128 by omega]

set_option maxRecDepth 100000 in
set_option maxHeartbeats 2000000 in
theorem num_walk (B : Nat) (g : Nat) (xs : List UInt8) (v : Nat) (w : World) (h : IsWriter B w g xs) (hB : B ≤ w.heap.size) (hg : B ≤ g) (hv : v ≤ 1000000) (hx : xs.length ≤ 1000) :
    Calls Tryz.prog 114 #[.pointer (some ⟨g, 0, none⟩), .int .i64 (v : Int)] w fun e w' => e = .returned (.tuple #[]) ∧ IsWriter B w' g (xs ++ varint (2 * v)) ∧ Below B w w' := by
  have hv' : (v : Int) ≤ 1000000 := by omega
  have HW := Lib.hid h
  clear h
  have hd0 : (v : Int) / 9223372036854775808 = 0 := by omega
  have hxor : bits .xor .u64 ((v : Int) * 2) 0 = ((2 * v : Nat) : Int) := by
    rw [show (v : Int) * 2 = ((2 * v : Nat) : Int) by omega]; exact xor_zero _ (by omega)
  go_enter Tryz.func114, Tryz.ntmps114
  go_wp2
  go_loopw [4] (fun sv wr => ∃ (n : Nat) (ys : List UInt8), sv = .int .u64 (n : Int) ∧ n ≤ 2000000 ∧ IsWriter B wr g ys ∧ ys ++ varint n = xs ++ varint (2 * v) ∧ Below B w wr) (fun sv _ => (intOf sv).toNat)
  case atStart => exact ⟨2 * v, xs, by simp, by omega, HW.out, rfl, Below.refl _ _⟩
  case round =>
    obtain ⟨n, ys, rfl, hn, hiw, hys, hb⟩ := hrel
    have hn' : (n : Int) ≤ 2000000 := by omega
    have HY := Lib.hid hys
    have HB := Lib.hid hb
    have hylen : ys.length ≤ 10000000 := by
      have h1 := congrArg List.length hys
      rw [List.length_append, List.length_append] at h1
      have h2 := varint_length (2 * v)
      omega
    obtain ⟨bv, hh, hown⟩ := hiw
    obtain ⟨c0, c1, f1⟩ := writer_cells hh
    have hBr : B ≤ wr.heap.size := Nat.le_trans hB hb.size
    clear hys hb
    by_cases h128 : n < 128
    · have t1 : decide ((128 : Int) ≤ n) = false := decide_eq_false (by omega)
      obtain ⟨u', w', hrun, hg', hown', hb', hne'⟩ := writer_push hh hown hBr (UInt8.ofNat n) (n : Int) (by rw [UInt8.toNat_ofNat']; omega) hylen
      obtain ⟨ao, n', cap, rfl⟩ := own_slice hown'
      have HR := Lib.hid hrun
      have HX := Lib.hid (writer_set hg' hown' hne' hg)
      have HB' := Lib.hid hb'
      obtain ⟨-, d1, f1'⟩ := writer_cells hg'
      have hlt := (Array.getElem?_eq_some_iff.1 hg').1
      clear hrun hg' hown' hb' hne' hown hh hn hv hv' hd0 hxor hylen hx hBr hB hg c0 f1
      go_wp2_with (at_builtin; refine wpList_append_run rfl _ _ _ rfl _ _ _ _ rfl rfl HR.out ?_)
      go_end0
      have e1 := HY.out
      rw [varint_small h128] at e1
      rw [← e1]
      exact ⟨rfl, HX.out.1, HB.out.trans (HB'.out.trans (HX.out.2))⟩
    · have t1 : decide ((128 : Int) ≤ n) = true := decide_eq_true (by omega)
      have hor := or128 n
      have hk : ((n : Int) % 128 + 128) % 256 = ((UInt8.ofNat (n % 128 + 128)).toNat : Int) := by rw [UInt8.toNat_ofNat']; omega
      rw [← hk] at hor
      obtain ⟨u', w', hrun, hg', hown', hb', hne'⟩ := writer_push hh hown hBr (UInt8.ofNat (n % 128 + 128)) _ hk hylen
      obtain ⟨ao, n', cap, rfl⟩ := own_slice hown'
      have HR := Lib.hid hrun
      have HX := Lib.hid (writer_set hg' hown' hne' hg)
      have HB' := Lib.hid hb'
      obtain ⟨-, d1, f1'⟩ := writer_cells hg'
      have hlt := (Array.getElem?_eq_some_iff.1 hg').1
      clear hrun hg' hown' hb' hne' hown hh hn hv hv' hd0 hxor hylen hx hBr hB hg c0 f1 hk
      go_wp2_with (at_builtin; refine wpList_append_run rfl _ _ _ rfl _ _ _ _ rfl rfl HR.out ?_)
      go_roundw
      case rel => exact ⟨n / 128, ys ++ [UInt8.ofNat (n % 128 + 128)], by go_num, by omega, HX.out.1, by rw [← HY.out, varint_big h128, List.append_assoc]; rfl, HB.out.trans (HB'.out.trans (HX.out.2))⟩
      case measure => simp [intOf]; omega

set_option maxHeartbeats 1000000 in
theorem wrong_x (a : Addr) (x : Int) (w : World) (h : w.cell? a = some (.int .i64 x)) (ha : a = ⟨a.block, 0, none⟩) :
    Calls Tryz.prog 113 #[.pointer (some a)] w fun e w' => e = .returned (.int .i64 x) ∧ w = w' := by
  rw [ha] at h ⊢
  clear ha
  go_enter Tryz.func113, Tryz.ntmps113
  go_wp2
  go_ret
  exact ⟨rfl, rfl⟩

theorem wrong_any (a : Addr) (w : World) (h : w.cell? a = some (.int .i64 0)) (ha : a = ⟨a.block, 0, none⟩) :
    Calls Tryz.prog 113 #[.pointer (some a)] w fun e w' => e = .returned (.int .i64 0) ∧ w = w' := wrong_x a 0 w h ha

set_option maxHeartbeats 1000000 in
theorem newWriter_any (w : World) : Calls Tryz.prog 79 #[] w fun e w' => ∃ g, e = .returned (.pointer (some ⟨g, 0, none⟩)) ∧ w.heap.size ≤ g ∧ IsWriter w.heap.size w' g [] ∧ Below w.heap.size w w' := by
  go_enter Tryz.func79, Tryz.ntmps79
  go_wp2
  go_ret
  exact ⟨_, rfl, Nat.le_refl _, ⟨_, heap_alloc_new w _, World.ownsRow_nil _ _ _ _⟩, (Below.refl _ _).alloc (Nat.le_refl _) _⟩

set_option maxRecDepth 100000 in
set_option maxHeartbeats 2000000 in
theorem putNum_any (B g b : Nat) (xs : List UInt8) (v : Nat) (w : World) (h : IsWriter B w g xs) (hB : B ≤ w.heap.size) (hg : B ≤ g) (hv : v ≤ 1000000) (hx : xs.length ≤ 1000) (hc : w.cell? ⟨b, 0, none⟩ = some (.int .i64 (v : Int))) :
    Calls Tryz.prog 80 #[.pointer (some ⟨g, 0, none⟩), .slice (some ⟨b, 0, none⟩) 1 1] w fun e w' => e = .returned (.tuple #[]) ∧ IsWriter B w' g (xs ++ varint (2 * v)) ∧ Below B w w' := by
  have HW := Lib.hid h
  have HC := Lib.hid hc
  clear h hc
  go_enter Tryz.func80, Tryz.ntmps80
  go_wp2
  go_loopw [8] (fun iv wr => ∃ k : Nat, k ≤ 1 ∧ iv = .int .i64 (k : Int) ∧ IsWriter B wr g (if k = 0 then xs else xs ++ varint (2 * v)) ∧ Below B w wr ∧ (k = 0 → wr = w)) (fun iv _ => 1 - (intOf iv).toNat)
  case atStart => exact ⟨0, by omega, rfl, HW.out, Below.refl _ _, fun _ => rfl⟩
  case round =>
    obtain ⟨k, hk, rfl, hiw, hbl, hwr⟩ := hrel
    have HB := Lib.hid hbl
    by_cases h1 : k = 0
    · subst h1
      have hwr0 := hwr rfl
      clear hwr
      subst hwr0
      have HI := Lib.hid hiw
      obtain ⟨bv, hh, -⟩ := hiw
      obtain ⟨c0, -, -⟩ := writer_cells hh
      have cb := HC.out
      have hBr : B ≤ wr.heap.size := Nat.le_trans hB hbl.size
      clear hh hbl
      go_wp2_with fail
      refine (wrong_any _ _ c0 rfl).mono ?_
      rintro e w1 ⟨rfl, rfl⟩
      go_wp2_with fail
      refine (num_walk B g xs v _ HI.out hBr hg hv hx).mono ?_
      rintro e w1 ⟨rfl, hw1, hb1⟩
      have HI1 := Lib.hid hw1
      have HB1 := Lib.hid hb1
      clear hw1 hb1
      go_wp2
      go_roundw
      case rel => exact ⟨1, by omega, rfl, HI1.out, HB.out.trans HB1.out, fun q => by cases q⟩
      case measure => simp [intOf]
    · obtain rfl : k = 1 := by omega
      have HI := Lib.hid hiw
      clear hiw hbl h1 hk hwr
      go_wp2
      go_end0
      exact ⟨rfl, HI.out, HB.out⟩

theorem bytes_cells {B g c : Nat} {w : World} {n : Nat} {xs : List UInt8} (h : w.ownsRow B 5 1 (.slice (some ⟨g, 0, none⟩) n c) xs.length (xs.map byteV)) : ∀ j (hj : j < xs.length), w.cell? ((⟨g, 0, none⟩ : Addr).add j) = some (.int .u8 (xs[j].toNat : Int)) := by
  intro j hj
  exact h.cells (g := g) rfl j _ (by rw [List.getElem?_map, List.getElem?_eq_getElem hj]; rfl)

theorem own_form {B : Nat} {w : World} {bv : Value} {xs : List UInt8} (h : w.ownsRow B 5 1 bv xs.length (xs.map byteV)) (hx : xs ≠ []) : ∃ g c, bv = .slice (some ⟨g, 0, none⟩) xs.length c := by
  rcases h.2 with ⟨rfl, h0⟩ | ⟨g, cap, cur, rfl, -⟩
  · exact absurd (List.eq_nil_of_length_eq_zero h0) hx
  · exact ⟨g, cap, rfl⟩

set_option maxHeartbeats 1000000 in
theorem bytes_any (B g : Nat) (xs : List UInt8) (w : World) (h : IsWriter B w g xs) (hx : xs ≠ []) :
    Calls Tryz.prog 81 #[.pointer (some ⟨g, 0, none⟩)] w fun e w' => e = .returned (.tuple #[.string ⟨xs.toArray⟩, .int .i64 0]) ∧ w = w' := by
  obtain ⟨bv, hh, hown⟩ := h
  obtain ⟨q, c, rfl⟩ := own_form hown hx
  obtain ⟨c0, c1, -⟩ := writer_cells hh
  have hcv := run_convert_bytes_back (P := Tryz.prog) w 48 9 5 ⟨q, 0, none⟩ c xs Tryz.underlying48 Tryz.underlying5 Tryz.underlying9 (bytes_cells hown)
  clear hown hh
  go_enter Tryz.func81, Tryz.ntmps81
  go_wp2_with fail
  refine (wrong_any _ _ c0 rfl).mono ?_
  rintro e w1 ⟨rfl, rfl⟩
  go_wp2
  go_ret2
  exact ⟨rfl, rfl⟩

end Go.Proofs.YtncpeaamfmfcgaaGreat
