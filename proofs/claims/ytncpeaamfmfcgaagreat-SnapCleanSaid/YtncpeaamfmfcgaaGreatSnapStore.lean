/- A store in memory: its numbers, its pictures, its files' names; Open. -/
import Derived.Test.YtncpeaamfmfcgaaGreatBase
import Derived.Test.YtncpeaamfmfcgaaGreatSumNum
import Derived.Test.YtncpeaamfmfcgaaGreatLib
import Derived.Test.YtncpeaamfmfcgaaGreatWalShort
import Derived.Deep.RegionHeld3
import Derived.Test.YtncpeaamfmfcgaaGreatSumScan
import Derived.Test.YtncpeaamfmfcgaaGreatWalGroup
import Derived.Test.YtncpeaamfmfcgaaGreatSame
import Derived.Sort.KeysCollected
import Derived.Test.YtncpeaamfmfcgaaGreatWalCalls
import Derived.Deep.CutRange
namespace Go.Proofs.YtncpeaamfmfcgaaGreat
open Go.RowKit Go.Proofs.YtncpeaamfmfcgaaGreat.Sum

/-! money.Digits, money.Number over numbers from 0 on; snap.number. -/

/-- A number's decimal digits. -/
def digs (n : Nat) : List UInt8 := if n < 10 then [UInt8.ofNat (48 + n)] else digs (n / 10) ++ [UInt8.ofNat (48 + n % 10)]
termination_by n
decreasing_by omega
theorem digs_small {n : Nat} (h : n < 10) : digs n = [UInt8.ofNat (48 + n)] := by unfold digs; rw [if_pos h]
theorem digs_big {n : Nat} (h : ¬ n < 10) : digs n = digs (n / 10) ++ [UInt8.ofNat (48 + n % 10)] := by rw [digs, if_neg h]
theorem digs_pos (n : Nat) : 0 < (digs n).length := by
  by_cases h : n < 10
  · rw [digs_small h]; simp
  · rw [digs_big h]; simp

theorem setCell_row' {w : World} {d i : Nat} {cs : Array Value} {t : TypeId} (h : w.heap[d]? = some (.cells cs t (0, 0))) (v : Value) : (w.setCell ⟨d, i, none⟩ v).heap[d]? = some (.cells (cs.setIfInBounds i v) t (0, 0)) := by
  simp [World.setCell, Array.getElem?_modify, h]
set_option maxHeartbeats 1000000 in
theorem plainSize_any (n : Nat) (w : World) (h : n ≤ 1000000) : Calls Tryz.prog 120 #[.int .i64 (n : Int)] w fun e w' => e = .returned (.int .u64 (n : Int)) ∧ w = w' := by
  have h1 : decide ((n : Int) < 0) = false := decide_eq_false (by omega)
  go_enter Tryz.func120, Tryz.ntmps120
  go_wp2
  go_ret
  exact ⟨rfl, rfl⟩

theorem digs_len (k : Nat) : ∀ n : Nat, n < 10 ^ (k + 1) → (digs n).length ≤ k + 1 := by
  induction k with
  | zero => intro n h; rw [digs_small (by simpa using h)]; simp
  | succ k ih =>
    intro n h
    by_cases hn : n < 10
    · rw [digs_small hn]; simp
    · rw [digs_big hn, List.length_append, List.length_singleton]
      have := ih (n / 10) (by rw [Nat.pow_succ] at h; omega)
      omega

/-- From place i of the array on stand the last digits; n is what is left. -/
def DigRel (B v i n : Nat) (w wr : World) : Prop :=
  Below B w wr ∧ ∃ arr : Array Value, wr.heap[B]? = some (.cells arr 136 (0, 0)) ∧ arr.size = 21 ∧
    ∃ done : List UInt8, i + done.length = 21 ∧ (∀ j, (h : j < done.length) → arr[i + j]? = some (.int .u8 (done[j].toNat : Int))) ∧ digs v = digs n ++ done
/-- All digits are there. -/
def DigEnd (B v i : Nat) (w wr : World) : Prop :=
  Below B w wr ∧ i + (digs v).length = 21 ∧ ∀ j, (h : j < (digs v).length) → wr.cell? ⟨B, i + j, none⟩ = some (.int .u8 ((digs v)[j].toNat : Int))
theorem DigRel.facts {B v i n : Nat} {w wr : World} (h : DigRel B v (i + 1) n w wr) (hv : v ≤ 1000000) : (∃ x, wr.cell? ⟨B, i, none⟩ = some x) ∧ wr.frozen? ⟨B, i, none⟩ = false ∧ 1 ≤ i ∧ i ≤ 20 := by
  obtain ⟨-, arr, h1, h2, done, h3, -, h5⟩ := h
  have h6 := congrArg List.length h5
  rw [List.length_append] at h6
  have e7 : (10 : Nat) ^ (6 + 1) = 10000000 := by decide
  have h7 := digs_len 6 v (by omega)
  have h8 := digs_pos n
  refine ⟨⟨arr[i]'(by omega), ?_⟩, by simp [World.frozen?, h1], by omega, by omega⟩
  simp [World.cell?, h1, Array.getElem?_eq_getElem (show i < arr.size by omega)]
theorem byte_of {n : Nat} (h : n < 256) : (Value.int .u8 (n : Int)) = .int .u8 ((UInt8.ofNat n).toNat : Int) := by
  rw [UInt8.toNat_ofNat', Nat.mod_eq_of_lt h]
theorem dig_store {B v i n : Nat} {w wr : World} (h : DigRel B v (i + 1) n w wr) :
    Below B w (wr.setCell ⟨B, i, none⟩ (.int .u8 (48 + (n : Int) % 10))) ∧ ∃ arr : Array Value, (wr.setCell ⟨B, i, none⟩ (.int .u8 (48 + (n : Int) % 10))).heap[B]? = some (.cells arr 136 (0, 0)) ∧ arr.size = 21 ∧
    ∃ done : List UInt8, i + done.length = 21 ∧ (∀ j, (h : j < done.length) → arr[i + j]? = some (.int .u8 (done[j].toNat : Int))) ∧ ∃ d, done = UInt8.ofNat (48 + n % 10) :: d ∧ digs v = digs n ++ d := by
  obtain ⟨hb, arr, h1, h2, done, h3, h4, h5⟩ := h
  refine ⟨hb.trans ⟨rfl, rfl, rfl, by simp [World.setCell], fun k hk => Below.heap_setCell _ _ _ _ (show k ≠ B by omega)⟩, _, setCell_row' h1 _, by rw [Array.size_setIfInBounds]; exact h2, _ :: done, by rw [List.length_cons]; omega, fun j hj => ?_, done, rfl, h5⟩
  cases j with
  | zero =>
    rw [Nat.add_zero, Array.getElem?_setIfInBounds_self_of_lt (by omega)]
    show some (Value.int .u8 _) = some (.int .u8 ((UInt8.ofNat (48 + n % 10)).toNat : Int))
    rw [← byte_of (by omega)]
    rfl
  | succ j =>
    rw [Array.getElem?_setIfInBounds_ne (by omega)]
    have := h4 j (by simpa using hj)
    rw [show i + (j + 1) = i + 1 + j by omega]
    exact this
theorem dig_more {B v i n : Nat} {w wr : World} (h : DigRel B v (i + 1) n w wr) (hn : ¬ n < 10) : DigRel B v i (n / 10) w (wr.setCell ⟨B, i, none⟩ (.int .u8 (48 + (n : Int) % 10))) := by
  obtain ⟨h0, arr, h1, h2, done, h3, h4, d, rfl, h5⟩ := dig_store h
  exact ⟨h0, arr, h1, h2, _, h3, h4, by rw [h5, digs_big hn]; simp⟩
theorem dig_end {B v i n : Nat} {w wr : World} (h : DigRel B v (i + 1) n w wr) (hn : n < 10) : DigEnd B v i w (wr.setCell ⟨B, i, none⟩ (.int .u8 (48 + (n : Int) % 10))) := by
  obtain ⟨h0, arr, h1, h2, done, h3, h4, d, hd, h5⟩ := dig_store h
  have hv : digs v = done := by rw [h5, digs_small hn, hd, Nat.mod_eq_of_lt hn]; rfl
  rw [← hv] at h3 h4
  refine ⟨h0, h3, fun j hj => ?_⟩
  simp [World.cell?, h1, h4 j hj]
theorem slice_tail (w : World) (b i : Nat) (hi : i ≤ 20) : (Instr.sliceAt 136 (.pointer (some ⟨b, 0, none⟩)) (some (.int .i64 (i : Int))) none none).run Tryz.prog w = .ok (.slice (some ⟨b, i, none⟩) (21 - i) (21 - i)) w := by
  have hu : Tryz.prog.underlying 136 = some (.array (Tryz.prog.arrayLen 136) (Tryz.prog.elem 136)) := by kernel_rfl
  have hl : Tryz.prog.arrayLen 136 = 21 := by kernel_rfl
  have hs : (sizeOf (Tryz.prog.elem 136)).run Tryz.prog w = .ok 1 w := by kernel_rfl
  rw [run_sliceAt_array_l w _ _ hu .i64 (i : Int) (by omega) (by rw [hl]; omega), hs, hl]
  simp only [Result.andThen, slicedAt, Int.toNat_natCast]
  rw [if_neg (by omega), Nat.mul_one]
  have hadd : (⟨b, 0, none⟩ : Addr).add i = ⟨b, i, none⟩ := by unfold Addr.add; split <;> simp_all
  rw [hadd]
theorem digits_text {B v i : Nat} {w wr : World} (h : DigEnd B v i w wr) : (convert 48 9 (.slice (some ⟨B, i, none⟩) (21 - i) (21 - i))).run Tryz.prog wr = .ok (.string ⟨(digs v).toArray⟩) wr := by
  have h1 : (digs v).length = 21 - i := by have := h.2.1; omega
  have := run_convert_bytes_back (P := Tryz.prog) wr 48 9 5 ⟨B, i, none⟩ (21 - i) (digs v) Tryz.underlying48 Tryz.underlying5 Tryz.underlying9 (fun j hj => by
    have hadd : (⟨B, i, none⟩ : Addr).add j = ⟨B, i + j, none⟩ := by unfold Addr.add; split <;> simp_all
    rw [hadd]; exact h.2.2 j hj)
  rw [h1] at this
  exact this

set_option maxRecDepth 100000 in
set_option maxHeartbeats 2000000 in
theorem digits_any (v : Nat) (w : World) (h : v ≤ 1000000) : Calls Tryz.prog 88 #[.int .i64 (v : Int)] w fun e w' => e = .returned (.string ⟨(digs v).toArray⟩) ∧ Below w.heap.size w w' := by
  have h1 : decide ((v : Int) < 0) = false := decide_eq_false (by omega)
  go_enter Tryz.func88, Tryz.ntmps88
  go_wp2_with fail
  refine (plainSize_any v _ h).mono ?_
  rintro e w1 ⟨rfl, rfl⟩
  go_wp2
  go_loopw [3, 5] (fun nv iv wr => ∃ i n : Nat, iv = .int .i64 ((i : Int) + 1) ∧ nv = .int .u64 (n : Int) ∧ n ≤ 1000000 ∧ DigRel w.heap.size v (i + 1) n w wr) (fun _ iv _ => (intOf iv).toNat)
  case atStart =>
    refine ⟨20, v, rfl, rfl, h, (Below.refl _ _).alloc (Nat.le_refl _) _, _, heap_alloc_new w _, rfl, [], rfl, (fun j hj => absurd hj (by simp)), by simp⟩
  case round =>
    obtain ⟨i, n, rfl, rfl, hn, hD⟩ := hrel
    obtain ⟨⟨x, hx⟩, hfz, hi1, hi2⟩ := hD.facts h
    have HD := Lib.hid hD
    clear hD
    have q1 : (0 : Int) ≤ i := by omega
    have q2 : (i : Int) < 21 := by omega
    have q3 : (i : Int) + 1 - 1 = i := by omega
    by_cases hlt : n < 10
    · have t1 : ((n : Int) / 10 == 0) = true := by rw [beq_iff_eq]; omega
      have HE := Lib.hid (dig_end HD.out hlt)
      have e1 := fun W => slice_tail W w.heap.size i hi2
      have e2 := digits_text HE.out
      clear hlt
      go_wp2
      go_ret
      exact ⟨rfl, HE.out.1⟩
    · have t1 : ((n : Int) / 10 == 0) = false := by rw [beq_eq_false_iff_ne]; omega
      have HE := Lib.hid (dig_more HD.out hlt)
      clear hlt HD
      go_wp2
      go_roundw
      case rel => exact ⟨i - 1, n / 10, by go_num, by go_num, by omega, by rw [show i - 1 + 1 = i by omega]; exact HE.out⟩
      case measure => simp [intOf]

/-! ### Numbers are read -/
def isDig (c : UInt8) : Bool := decide (48 ≤ c.toNat ∧ c.toNat ≤ 57)
def valD (l : List UInt8) : Nat := l.foldl (fun a c => 10 * a + (c.toNat - 48)) 0
/-- What digits are worth, if they are a number's. -/
def numDigits (d : List UInt8) (below : Bool) : Option Nat :=
  if d = [] ∨ 18 < d.length ∨ (d.head? = some 48 ∧ (1 < d.length ∨ below = true)) then none else if d.all isDig then some (valD d) else none
def DecOut (d : List UInt8) (below : Bool) (e : Ending) : Prop :=
  match numDigits d below with
  | some k => e = .returned (.tuple #[.int .i64 (if below then -(k : Int) else k), .int .i64 0])
  | none => e = .returned (.tuple #[.int .i64 0, .int .i64 1])
theorem DecOut.none {d : List UInt8} {below : Bool} (h : numDigits d below = none) : DecOut d below (.returned (.tuple #[.int .i64 0, .int .i64 1])) := by
  unfold DecOut; rw [h]
theorem DecOut.some {d : List UInt8} {below : Bool} {k : Nat} {x : Int} (h : numDigits d below = some k) (hx : x = if below then -(k : Int) else k) : DecOut d below (.returned (.tuple #[.int .i64 x, .int .i64 0])) := by
  unfold DecOut; rw [h, hx]

theorem valD_snoc (l : List UInt8) (c : UInt8) : valD (l ++ [c]) = 10 * valD l + (c.toNat - 48) := by unfold valD; rw [List.foldl_append]; rfl
theorem isDig_of {c : UInt8} (h1 : ¬ c.toNat < 48) (h2 : ¬ 57 < c.toNat) : isDig c = true := decide_eq_true ⟨by omega, by omega⟩
theorem isDig_low {c : UInt8} (h1 : c.toNat < 48) : isDig c = false := decide_eq_false (by omega)
theorem isDig_high {c : UInt8} (h1 : 57 < c.toNat) : isDig c = false := decide_eq_false (by omega)
theorem valD_lt (k : Nat) : ∀ l : List UInt8, l.length = k → l.all isDig = true → valD l < 10 ^ k := by
  induction k with
  | zero => intro l h _; rw [List.eq_nil_of_length_eq_zero h]; decide
  | succ k ih =>
    intro l h hd
    obtain ⟨p, c, rfl⟩ : ∃ p c, l = p ++ [c] := ⟨l.dropLast, l.getLast (by intro q; rw [q] at h; cases h), (List.dropLast_concat_getLast _).symm⟩
    rw [List.all_append] at hd
    have hd := (Bool.and_eq_true _ _).mp hd
    have h1 := ih p (by rw [List.length_append, List.length_singleton] at h; omega) hd.1
    have hd2 : isDig c = true := by simpa [List.all_cons] using hd.2
    have h2 : 48 ≤ c.toNat ∧ c.toNat ≤ 57 := of_decide_eq_true hd2
    rw [valD_snoc, Nat.pow_succ]
    omega
/-- Behind k digits. -/
def DecRel (d : ByteArray) (k m : Nat) : Prop := (d.data.toList.take k).all isDig = true ∧ m = valD (d.data.toList.take k)
theorem DecRel.bound {d : ByteArray} {k m : Nat} (h : DecRel d k m) (h18 : ¬ 18 < d.size) (hlt : k < d.size) : m < 100000000000000000 := by
  have h1 := valD_lt k _ (by rw [List.length_take, ← Lib.size_eq]; omega) h.1
  rw [← h.2] at h1
  have h2 : (10 : Nat) ^ k ≤ 10 ^ 17 := Nat.pow_le_pow_right (by decide) (by omega)
  have e : (10 : Nat) ^ 17 = 100000000000000000 := by decide
  omega
theorem data_take_succ (d : ByteArray) (k : Nat) (h : k < d.size) : d.data.toList.take (k + 1) = d.data.toList.take k ++ [d[k]] := by
  rw [List.take_succ_eq_append_getElem (by rw [← Lib.size_eq]; exact h)]
  rfl
theorem DecRel.next {d : ByteArray} {k m : Nat} (h : DecRel d k m) (hlt : k < d.size) (hd : isDig d[k] = true) : DecRel d (k + 1) (10 * m + (d[k].toNat - 48)) := by
  refine ⟨?_, ?_⟩
  · rw [data_take_succ d k hlt, List.all_append, h.1]; simp [hd]
  · rw [data_take_succ d k hlt, valD_snoc, ← h.2]
theorem all_false {d : ByteArray} {k : Nat} (hlt : k < d.size) (hd : isDig d[k] = false) : d.data.toList.all isDig = false := by
  rw [List.all_eq_false]
  exact ⟨d[k], by rw [show d[k] = d.data.toList[k]'(by rw [← Lib.size_eq]; exact hlt) from rfl]; exact List.getElem_mem _, by rw [hd]; decide⟩

set_option maxRecDepth 100000 in
set_option maxHeartbeats 4000000 in
theorem number_any (s : ByteArray) (w : World) (hs : s.size ≤ 1000000) :
    Calls Tryz.prog 119 #[.string s] w fun e w' => DecOut (Lib.trimPrefix s.data.toList [45]) (Lib.hasPrefix s.data.toList [45]) e ∧ w = w' := by
  have hsz : (⟨(Lib.trimPrefix s.data.toList [45]).toArray⟩ : ByteArray).size ≤ 1000000 := by
    have h1 := Lib.trimPrefix_le s.data.toList [45]
    rw [Lib.size_eq] at hs ⊢
    simp only
    omega
  have hdl : (⟨(Lib.trimPrefix s.data.toList [45]).toArray⟩ : ByteArray).data.toList = Lib.trimPrefix s.data.toList [45] := by simp
  generalize hd : (⟨(Lib.trimPrefix s.data.toList [45]).toArray⟩ : ByteArray) = d at *
  generalize hb : Lib.hasPrefix s.data.toList [45] = below at *
  rw [← hdl]
  have HC := Lib.hid (show Calls Tryz.prog 118 #[.string s, .string ⟨#[45]⟩] w fun e w' => e = .returned (.tuple #[.string d, .bool below]) ∧ w' = w by
    have := Tryz.strings_CutPrefix s ⟨#[45]⟩ w
    rw [← hd, ← hb]; exact this)
  clear hd hb hdl hs
  have HSZ := Lib.hid hsz
  clear hsz
  by_cases h0 : d.size = 0
  · have he : d = ⟨#[]⟩ := ByteArray.ext (Array.eq_empty_of_size_eq_zero h0)
    subst he
    go_enter Tryz.func119, Tryz.ntmps119
    go_wp2_with fail
    refine HC.out.mono ?_
    rintro e w1 ⟨rfl, rfl⟩
    go_wp2
    go_ret2
    exact ⟨DecOut.none (if_pos (.inl rfl)), rfl⟩
  · have hq : (d.toList == []) = false := by
      rw [ByteArray.toList_eq, beq_eq_false_iff_ne]
      intro h; apply h0; rw [Lib.size_eq, h]; rfl
    have hq2 : d.toList = [] ↔ False := by simpa using hq
    by_cases h18 : 18 < d.size
    · have t18 : decide ((18 : Int) < d.size) = true := decide_eq_true (by omega)
      have HE := Lib.hid (show numDigits d.data.toList below = none from if_pos (.inr (.inl (by rw [← Lib.size_eq]; exact h18))))
      go_enter Tryz.func119, Tryz.ntmps119
      go_wp2_with fail
      refine HC.out.mono ?_
      rintro e w1 ⟨rfl, rfl⟩
      go_wp2
      go_ret2
      exact ⟨DecOut.none HE.out, rfl⟩
    · have t18 : decide ((18 : Int) < d.size) = false := decide_eq_false (by omega)
      have hp : 0 < d.size := by omega
      have hp' : (0 : Int) < d.size := by omega
      have hhead : d.data.toList.head? = some d[0] := by
        rw [List.head?_eq_getElem?, List.getElem?_eq_getElem (by rw [← Lib.size_eq]; exact hp)]; rfl
      have hne : d.data.toList ≠ [] := by intro q; apply h0; rw [Lib.size_eq, q]; rfl
      have hu : ∀ c : UInt8, c = 48 ↔ c.toNat = 48 := fun c => ⟨fun h => by rw [h]; rfl, fun h => UInt8.toNat_inj.1 h⟩
      have hfirst : (d.data.toList = [] ∨ 18 < d.data.toList.length ∨ (d.data.toList.head? = some 48 ∧ (1 < d.data.toList.length ∨ below = true))) ↔ (d[0].toNat = 48 ∧ (1 < d.size ∨ below = true)) := by
        rw [← Lib.size_eq, hhead, Option.some.injEq, hu]
        constructor
        · rintro (h | h | h)
          · exact absurd h hne
          · exact absurd h h18
          · exact h
        · intro h; exact .inr (.inr h)
      have HFI := Lib.hid hfirst
      clear hhead hne hu hfirst
      by_cases hbad : d[0].toNat = 48 ∧ (1 < d.size ∨ below = true)
      · have HE := Lib.hid (show numDigits d.data.toList below = none from if_pos (HFI.out.2 hbad))
        have t48 : ((d[0].toNat : Int) == 48) = true := by rw [beq_iff_eq]; have := hbad.1; omega
        have key : decide ((1 : Int) < d.size) = true ∨ (decide ((1 : Int) < d.size) = false ∧ below = true) := by
          rcases Nat.lt_or_ge 1 d.size with h | h
          · exact .inl (decide_eq_true (by omega))
          · exact .inr ⟨decide_eq_false (by omega), by rcases hbad.2 with h2 | h2
                                                       · omega
                                                       · exact h2⟩
        clear hbad
        rcases key with k1 | ⟨k1, rfl⟩
        all_goals
          go_enter Tryz.func119, Tryz.ntmps119
          go_wp2_with fail
          refine HC.out.mono ?_
          rintro e w1 ⟨rfl, rfl⟩
          go_wp2
          go_ret2
          exact ⟨DecOut.none HE.out, rfl⟩
      · have HNF := Lib.hid (show numDigits d.data.toList below = if d.data.toList.all isDig then some (valD d.data.toList) else none from if_neg (fun h => hbad (HFI.out.1 h)))
        have key : ((d[0].toNat : Int) == 48) = false ∨ (((d[0].toNat : Int) == 48) = true ∧ decide ((1 : Int) < d.size) = false ∧ below = false) := by
          by_cases h48 : d[0].toNat = 48
          · refine .inr ⟨by rw [beq_iff_eq]; omega, decide_eq_false fun q => hbad ⟨h48, .inl (by omega)⟩, ?_⟩
            cases hb : below
            · rfl
            · exact absurd ⟨h48, .inr hb⟩ hbad
          · exact .inl (by rw [beq_eq_false_iff_ne]; omega)
        clear hbad HFI
        have H18 := Lib.hid h18
        rcases key with k1 | ⟨k1, k2, rfl⟩
        case' inl => cases below
        all_goals
          go_enter Tryz.func119, Tryz.ntmps119
          go_wp2_with fail
          refine HC.out.mono ?_
          rintro e w1 ⟨rfl, rfl⟩
          go_wp2
          go_loopw [6, 35] (fun nv iv wr => ∃ k m : Nat, k ≤ d.size ∧ iv = .int .i64 (k : Int) ∧ nv = .int .i64 (m : Int) ∧ wr = w1 ∧ DecRel d k m) (fun _ iv _ => d.size - (intOf iv).toNat)
          case atStart => exact ⟨0, 0, Nat.zero_le _, rfl, rfl, rfl, rfl, rfl⟩
          case round =>
            obtain ⟨k, m, hk, rfl, rfl, rfl, hN⟩ := hrel
            have HNR := Lib.hid hN
            clear hN
            by_cases hlt : k < d.size
            · have q0 : (0 : Int) ≤ k := by omega
              have q1 : (k : Int) < d.size := by omega
              have HNX := Lib.hid (HNR.out.next hlt)
              have HAF := Lib.hid (all_false (d := d) hlt)
              have hm := HNR.out.bound H18.out hlt
              have hc := d[k].toNat_lt
              by_cases hlow : d[k].toNat < 48
              · have t1 : decide ((d[k].toNat : Int) < 48) = true := decide_eq_true (by omega)
                have HE := Lib.hid (show numDigits d.data.toList _ = none from HNF.out.trans (if_neg (by rw [HAF.out (isDig_low hlow)]; decide)))
                clear hlow hm hc
                go_wp2
                go_ret2
                exact ⟨DecOut.none HE.out, rfl⟩
              · by_cases hhigh : 57 < d[k].toNat
                · have t1 : decide ((d[k].toNat : Int) < 48) = false := decide_eq_false (by omega)
                  have t2 : decide ((57 : Int) < d[k].toNat) = true := decide_eq_true (by omega)
                  have HE := Lib.hid (show numDigits d.data.toList _ = none from HNF.out.trans (if_neg (by rw [HAF.out (isDig_high hhigh)]; decide)))
                  clear hlow hhigh hm hc
                  go_wp2
                  go_ret2
                  exact ⟨DecOut.none HE.out, rfl⟩
                · have t1 : decide ((d[k].toNat : Int) < 48) = false := decide_eq_false (by omega)
                  have t2 : decide ((57 : Int) < d[k].toNat) = false := decide_eq_false (by omega)
                  have HX := Lib.hid (HNX.out (isDig_of hlow hhigh))
                  obtain ⟨c, hcc⟩ : ∃ c : Nat, d[k].toNat = c + 48 := ⟨d[k].toNat - 48, by omega⟩
                  rw [hcc, Nat.add_sub_cancel] at HX
                  rw [hcc] at hc
                  have hcu : c ≤ 9 := by omega
                  clear t1 t2
                  have t1 : decide ((c : Int) + 48 < 48) = false := decide_eq_false (by omega)
                  have t2 : decide ((57 : Int) < (c : Int) + 48) = false := decide_eq_false (by omega)
                  have w1 : IntKind.i64.wrap (10 * (m : Int)) = 10 * m := IntWalk.i64_in _ (by omega)
                  have w2 : IntKind.i64.wrap (10 * (m : Int) + c) = 10 * m + c := IntWalk.i64_in _ (by omega)
                  clear hlow hhigh hm hc HNX HAF
                  go_wp2
                  go_roundw
                  case rel => exact ⟨k + 1, 10 * m + c, by omega, by go_num, by go_num, by first | rfl | trivial, HX.out⟩
                  case measure => simp [intOf]; omega
            · have hkd : k = d.size := by omega
              have HE := Lib.hid (show d.data.toList.all isDig = true ∧ m = valD d.data.toList by
                have := HNR.out
                unfold DecRel at this
                rw [hkd, List.take_of_length_le (by rw [← Lib.size_eq]; exact Nat.le_refl _)] at this
                exact this)
              have w3 : IntKind.i64.wrap (-(m : Int)) = -(m : Int) := IntWalk.i64_in _ (by
                have h1 := valD_lt d.size d.data.toList (by rw [← Lib.size_eq]) HE.out.1
                rw [← HE.out.2] at h1
                have h2 : (10 : Nat) ^ d.size ≤ 10 ^ 18 := Nat.pow_le_pow_right (by decide) (by have := H18.out; omega)
                have e : (10 : Nat) ^ 18 = 1000000000000000000 := by decide
                omega)
              clear hkd
              go_wp2
              go_ret2
              exact ⟨DecOut.some (HNF.out.trans (if_pos HE.out.1)) (by rw [← HE.out.2]; rfl), rfl⟩

/-- The number behind something in a name. -/
def numIn (file ahead : List UInt8) : Option Nat :=
  if Lib.hasPrefix file ahead then
    (numDigits (Lib.trimPrefix (Lib.trimPrefix file ahead) [45]) (Lib.hasPrefix (Lib.trimPrefix file ahead) [45])).bind fun k => if Lib.hasPrefix (Lib.trimPrefix file ahead) [45] && decide (0 < k) then none else some k
  else none

def InOut (r : Option Nat) (e : Ending) : Prop := ∃ n : Int, e = .returned (.tuple #[.int .i64 n, .bool r.isSome]) ∧ ∀ k, r = some k → n = k
theorem DecOut.shape {d : List UInt8} {below : Bool} {e : Ending} (h : DecOut d below e) : ∃ n x : Int, e = .returned (.tuple #[.int .i64 n, .int .i64 x]) := by
  unfold DecOut at h
  split at h
  · exact ⟨_, _, h⟩
  · exact ⟨_, _, h⟩
theorem InOut.no (n : Int) : InOut none (.returned (.tuple #[.int .i64 n, .bool false])) := ⟨n, rfl, fun k h => by cases h⟩
theorem InOut.yes (k : Nat) : InOut (some k) (.returned (.tuple #[.int .i64 (k : Int), .bool true])) := ⟨k, rfl, fun j h => by injection h with h; rw [h]⟩

set_option maxHeartbeats 2000000 in
theorem inName_any (file ahead : ByteArray) (w : World) (hs : file.size ≤ 1000000) :
    Calls Tryz.prog 87 #[.string file, .string ahead] w fun e w' => InOut (numIn file.data.toList ahead.data.toList) e ∧ w = w' := by
  have HCP := Lib.hid (Tryz.strings_CutPrefix file ahead w)
  have hsz : (⟨(Lib.trimPrefix file.data.toList ahead.data.toList).toArray⟩ : ByteArray).size ≤ 1000000 := by
    have h1 := Lib.trimPrefix_le file.data.toList ahead.data.toList
    rw [Lib.size_eq] at hs ⊢
    simp only
    omega
  have HN0 := number_any ⟨(Lib.trimPrefix file.data.toList ahead.data.toList).toArray⟩ w hsz
  simp only at HN0
  have HN := Lib.hid HN0
  clear hsz hs HN0
  unfold numIn
  generalize hr : Lib.trimPrefix file.data.toList ahead.data.toList = rest at *
  generalize hb : Lib.hasPrefix file.data.toList ahead.data.toList = b at *
  generalize hb2 : Lib.hasPrefix rest [45] = below at *
  generalize hd : Lib.trimPrefix rest [45] = d at *
  clear hr hb hb2 hd
  cases b
  · go_enter Tryz.func87, Tryz.ntmps87
    go_wp2_with fail
    refine HCP.out.mono ?_
    rintro e w1 ⟨rfl, rfl⟩
    go_wp2_with fail
    refine HN.out.mono ?_
    rintro e w2 ⟨h1, rfl⟩
    obtain ⟨n1, n2, rfl⟩ := h1.shape
    clear h1
    go_wp2
    go_ret2
    exact ⟨InOut.no _, rfl⟩
  · cases hnd : numDigits d below with
    | none =>
      have HND := Lib.hid hnd
      clear hnd
      go_enter Tryz.func87, Tryz.ntmps87
      go_wp2_with fail
      refine HCP.out.mono ?_
      rintro e w1 ⟨rfl, rfl⟩
      go_wp2_with fail
      refine HN.out.mono ?_
      rintro e w2 ⟨h1, rfl⟩
      unfold DecOut at h1
      rw [HND.out] at h1
      simp only at h1
      subst h1
      go_wp2
      go_ret2
      exact ⟨InOut.no _, rfl⟩
    | some k =>
      have HND := Lib.hid hnd
      clear hnd
      by_cases hneg : below = true ∧ 0 < k
      · obtain ⟨rfl, hk⟩ := hneg
        have t1 : decide (k = 0) = false := decide_eq_false (by omega)
        have t2 : ¬ k = 0 := by omega
        have HK := Lib.hid (show (some k : Option Nat).bind (fun k => if true && decide (0 < k) then none else some k) = none by simp [hk])
        clear hk
        rw [HK.out]
        go_enter Tryz.func87, Tryz.ntmps87
        go_wp2_with fail
        refine HCP.out.mono ?_
        rintro e w1 ⟨rfl, rfl⟩
        go_wp2_with fail
        refine HN.out.mono ?_
        rintro e w2 ⟨h1, rfl⟩
        unfold DecOut at h1
        rw [HND.out] at h1
        simp only [if_true] at h1
        subst h1
        go_wp2
        go_ret2
        exact ⟨InOut.no _, rfl⟩
      · have HK := Lib.hid (show (some k : Option Nat).bind (fun k => if below && decide (0 < k) then none else some k) = some k by
          show (if _ then _ else _) = _
          rw [if_neg]
          simpa using hneg)
        have HX := Lib.hid (show (if below then -(k : Int) else k) = k by
          cases below
          · rfl
          · have : k = 0 := by simpa using hneg
            subst this; rfl)
        clear hneg
        rw [HK.out]
        have t1 : decide ((0 : Int) ≤ (k : Int)) = true := decide_eq_true (by omega)
        go_enter Tryz.func87, Tryz.ntmps87
        go_wp2_with fail
        refine HCP.out.mono ?_
        rintro e w1 ⟨rfl, rfl⟩
        go_wp2_with fail
        refine HN.out.mono ?_
        rintro e w2 ⟨h1, rfl⟩
        unfold DecOut at h1
        rw [HND.out] at h1
        simp only at h1
        rw [HX.out] at h1
        subst h1
        go_wp2
        go_ret2
        exact ⟨InOut.yes k, rfl⟩

/-! A picture's bytes: snap.lay lays them, snap.read reads them. -/

/-- A state in pieces. -/
def chunks (l : List UInt8) : List (List UInt8) := if l.length ≤ 60000 then [l] else l.take 60000 :: chunks (l.drop 60000)
termination_by l.length
decreasing_by rw [List.length_drop]; omega
theorem chunks_small {l : List UInt8} (h : l.length ≤ 60000) : chunks l = [l] := by unfold chunks; rw [if_pos h]
theorem chunks_big {l : List UInt8} (h : ¬ l.length ≤ 60000) : chunks l = l.take 60000 :: chunks (l.drop 60000) := by rw [chunks, if_neg h]
theorem chunks_spec (n : Nat) : ∀ l : List UInt8, l.length ≤ n → (chunks l).flatten = l ∧ (∀ c ∈ chunks l, c.length ≤ 60000) ∧ (chunks l).length ≤ l.length + 1 := by
  induction n with
  | zero =>
    intro l h
    have := List.eq_nil_of_length_eq_zero (Nat.le_zero.1 h)
    subst this
    rw [chunks_small (by simp)]; simp
  | succ n ih =>
    intro l h
    by_cases hl : l.length ≤ 60000
    · rw [chunks_small hl]; simpa using hl
    · rw [chunks_big hl]
      obtain ⟨h1, h2, h3⟩ := ih (l.drop 60000) (by rw [List.length_drop]; omega)
      refine ⟨by rw [List.flatten_cons, h1, List.take_append_drop], fun c hc => ?_, ?_⟩
      · rcases List.mem_cons.1 hc with rfl | hc
        · rw [List.length_take]; omega
        · exact h2 c hc
      · rw [List.length_cons]; rw [List.length_drop] at h3; omega
/-- A picture's bytes. -/
def layB (l : List UInt8) : List UInt8 := frames (chunks l ++ [101 :: 110 :: 100 :: digs l.length])
theorem frames_len (m : List (List UInt8)) : (frames m).length = m.flatten.length + 8 * m.length := by
  induction m with
  | nil => rfl
  | cons s m ih => simp only [frames, List.length_append, frame_length, List.length_cons, List.flatten_cons]; rw [ih]; omega
theorem digs_short {n : Nat} (h : n ≤ 1000000) : (digs n).length ≤ 7 := by
  have e7 : (10 : Nat) ^ (6 + 1) = 10000000 := by decide
  exact digs_len 6 n (by omega)
theorem layB_len {l : List UInt8} (h : l.length ≤ 1000000) : (layB l).length ≤ 9 * l.length + 34 := by
  obtain ⟨h1, h2, h3⟩ := chunks_spec _ l (Nat.le_refl _)
  unfold layB
  rw [frames_len, List.flatten_append, h1]
  have := digs_short h
  simp
  omega
theorem layB_small {l : List UInt8} (h : l.length ≤ 60000) : (layB l).length ≤ l.length + 26 := by
  unfold layB
  rw [chunks_small h, frames_len]
  have := digs_short (n := l.length) (by omega)
  simp
  omega
def strLen : Value → Nat
  | .string s => s.size
  | _ => 0

theorem string_empty {s : ByteArray} (h : s.size = 0) : (s.toList == []) = true := by
  have he : s = ⟨#[]⟩ := ByteArray.ext (Array.eq_empty_of_size_eq_zero h)
  rw [ByteArray.toList_eq, he]; rfl
theorem string_full {s : ByteArray} (h : ¬ s.size = 0) : (s.toList == []) = false := by
  rw [ByteArray.toList_eq, beq_eq_false_iff_ne]
  intro q; apply h; rw [Lib.size_eq, q]; rfl

theorem lay_step {N a b c a' b' : Nat} (h : a * N + b ≤ c) (hb : N < b) (ha : a' = a + 1) (hb' : b' = b - N) : a' * N + b' ≤ c := by
  subst ha hb'
  rw [Nat.add_mul, Nat.one_mul]
  generalize a * N = x at *
  omega

/-- Pieces are laid; r is left. -/
def LayRel (B : Nat) (s r : ByteArray) (done : List ByteArray) (av : Value) (w wr : World) : Prop :=
  Texts wr B av done ∧ Below B w wr ∧ raw done ++ chunks r.data.toList = chunks s.data.toList ∧ done.length * 60000 + r.size ≤ s.size

set_option maxRecDepth 100000 in
set_option maxHeartbeats 4000000 in
theorem lay_any (s : ByteArray) (w : World) (hs : s.size ≤ 1000000) :
    Calls Tryz.prog 90 #[.string s] w fun e w' => e = .returned (.string ⟨(layB s.data.toList).toArray⟩) ∧ Below w.heap.size w w' := by
  have HSZ := Lib.hid hs
  go_enter Tryz.func90, Tryz.ntmps90
  go_wp2
  go_loopw [3, 4] (fun av rv wr => ∃ (r : ByteArray) (done : List ByteArray), rv = .string r ∧ LayRel w.heap.size s r done av w wr) (fun _ rv _ => strLen rv)
  case atStart => exact ⟨s, [], rfl, Texts.nil _ _, Below.refl _ _, rfl, by simp⟩
  case round =>
    obtain ⟨r, done, rfl, ht, hb, hch, hlen⟩ := hrel
    have HT := Lib.hid ht
    have HB := Lib.hid hb
    have HCH := Lib.hid hch
    have HLEN := Lib.hid hlen
    clear ht hb hch hlen
    have hrs : r.size ≤ 1000000 := by have := HLEN.out; omega
    have hdl : done.length ≤ 16 := by have := HLEN.out; omega
    by_cases hle : r.size ≤ 60000
    · have hmin : min (r.size : Int) 60000 = r.size := by omega
      obtain ⟨ao, n', cap', w', hrun, ht', hg', -⟩ := push_text HT.out r (by omega) HB.out.size
      have HR := Lib.hid hrun
      have HT' := Lib.hid ht'
      have HB' := Lib.hid (Below.grownTexts HB.out HT.out hg' HB.out.size)
      have hem : ((r.extract r.size r.size).toList == []) = true := string_empty (by rw [ByteArray.size_extract]; omega)
      have HALL := Lib.hid (show raw (done ++ [r]) = chunks s.data.toList by
        rw [← HCH.out, chunks_small (by rw [← Lib.size_eq]; exact hle)]
        exact List.map_append ..)
      clear hrun ht' hg' hle
      go_wp2_with (first | (at_builtin; refine wpList_append_run rfl _ _ _ rfl _ _ _ _ rfl rfl HR.out ?_) | fail)
      refine (digits_any s.size _ HSZ.out).mono ?_
      rintro e w2 ⟨rfl, hb2⟩
      have HB2 := Lib.hid (HB'.out.trans (hb2.mono HB'.out.size))
      have HT2 := Lib.hid (HT'.out.later hb2)
      generalize hvv : (⟨(digs s.size).toArray⟩ : ByteArray) = vb at *
      have HVB := Lib.hid hvv
      have hvs : vb.size ≤ 7 := by rw [← hvv, Lib.size_eq]; exact digs_short HSZ.out
      obtain ⟨ao, n', cap', w3, hrun, ht', hg', -⟩ := push_text HT2.out ((⟨#[101, 110, 100]⟩ : ByteArray) ++ vb) (by rw [List.length_append, List.length_singleton]; omega) HB2.out.size
      have HR2 := Lib.hid hrun
      have HT3 := Lib.hid ht'
      have HB3 := Lib.hid (Below.grownTexts HB2.out HT2.out hg' HB2.out.size)
      clear hrun ht' hg' hb2 hvv hem
      have hrw : raw (done ++ [r] ++ [(⟨#[101, 110, 100]⟩ : ByteArray) ++ vb]) = chunks s.data.toList ++ [101 :: 110 :: 100 :: digs s.data.toList.length] := by
        rw [show raw (done ++ [r] ++ [(⟨#[101, 110, 100]⟩ : ByteArray) ++ vb]) = raw (done ++ [r]) ++ raw [(⟨#[101, 110, 100]⟩ : ByteArray) ++ vb] from List.map_append .., HALL.out]
        show _ ++ [((⟨#[101, 110, 100]⟩ : ByteArray) ++ vb).data.toList] = _
        rw [ByteArray.data_append, ← HVB.out, ← Lib.size_eq]; simp
      have hfr := frame_any (done ++ [r] ++ [(⟨#[101, 110, 100]⟩ : ByteArray) ++ vb]) _ w3 HT3.out.strs (by simp; omega) (by
        have hlen : ∀ x ∈ raw (done ++ [r] ++ [(⟨#[101, 110, 100]⟩ : ByteArray) ++ vb]), x.length < 4294967296 := by
          rw [hrw]
          intro x hx
          rcases List.mem_append.1 hx with h | h
          · have := (chunks_spec _ s.data.toList (Nat.le_refl _)).2.1 x h; omega
          · obtain rfl := List.mem_singleton.1 h
            have := digs_short (n := s.data.toList.length) (by rw [← Lib.size_eq]; exact HSZ.out)
            simp only [List.length_cons]; omega
        intro x hx
        rw [Lib.size_eq]
        exact hlen _ (List.mem_map.2 ⟨x, hx, rfl⟩)) (by rw [hrw]; have h7 := layB_len (l := s.data.toList) (by rw [← Lib.size_eq]; exact HSZ.out); unfold layB at h7; have h8 := Lib.size_eq s; omega)
      rw [hrw] at hfr
      have HFR := Lib.hid hfr
      clear hfr hrw HR
      go_wp2_with (first | (at_builtin; refine wpList_append_run rfl _ _ _ rfl _ _ _ _ rfl rfl HR2.out ?_) | fail)
      refine HFR.out.mono ?_
      rintro e w4 ⟨rfl, hb4⟩
      go_wp2
      go_ret
      exact ⟨rfl, HB3.out.trans (hb4.mono HB3.out.size)⟩
    · have hmin : min (r.size : Int) 60000 = 60000 := by omega
      obtain ⟨ao, n', cap', w', hrun, ht', hg', -⟩ := push_text HT.out (r.extract 0 60000) (by omega) HB.out.size
      have HR := Lib.hid hrun
      have HT' := Lib.hid ht'
      have HB' := Lib.hid (Below.grownTexts HB.out HT.out hg' HB.out.size)
      have hem : ((r.extract 60000 r.size).toList == []) = false := string_full (by rw [ByteArray.size_extract]; omega)
      have hg : (60000 : Int) ≤ r.size := by omega
      have HGT := Lib.hid (show 60000 < r.size by omega)
      clear hrun ht' hg' hle
      go_wp2_with (at_builtin; refine wpList_append_run rfl _ _ _ rfl _ _ _ _ rfl rfl HR.out ?_)
      go_roundw
      case rel =>
        refine ⟨_, _, rfl, HT'.out, HB'.out, ?_, ?_⟩
        · rw [← HCH.out, chunks_big (l := r.data.toList) (by rw [← Lib.size_eq]; have := HGT.out; omega), show raw (done ++ [r.extract 0 60000]) = raw done ++ raw [r.extract 0 60000] from List.map_append .., List.append_assoc]
          congr 1
          show [(r.extract 0 60000).data.toList] ++ _ = _
          rw [extract_from, Lib.extract_data]; simp
        · exact lay_step HLEN.out HGT.out (by rw [List.length_append]; rfl) (by rw [ByteArray.size_extract, Nat.min_self])
      case measure =>
        show (r.extract 60000 r.size).size < r.size
        have h2 := HGT.out
        rw [ByteArray.size_extract, Nat.min_self]
        omega

/-- What a picture's bytes tell, and whether they are one. -/
def readB (b : List UInt8) : List UInt8 × Bool := if (scan b).1 = [] then ([], false) else ((scan b).1.dropLast.flatten, decide (layB (scan b).1.dropLast.flatten = b))
theorem readB_layB {l : List UInt8} (h : l.length ≤ 1000000) : readB (layB l) = (l, true) := by
  obtain ⟨h1, h2, -⟩ := chunks_spec _ l (Nat.le_refl _)
  have hs : (scan (layB l)).1 = chunks l ++ [101 :: 110 :: 100 :: digs l.length] := by
    have := scan_frames (chunks l ++ [101 :: 110 :: 100 :: digs l.length]) [] (fun s hs => by
      rcases List.mem_append.1 hs with h3 | h3
      · exact h2 s h3
      · obtain rfl := List.mem_singleton.1 h3
        have := digs_short h
        simp only [List.length_cons]; omega)
    rw [List.append_nil] at this
    unfold layB
    rw [this, scan_short [] (by simp), List.append_nil]
  unfold readB
  rw [hs, if_neg (by simp), List.dropLast_concat, h1, decide_eq_true rfl]

theorem join_none (l : List (List UInt8)) : Lib.join l [] = l.flatten := by
  cases l with
  | nil => rfl
  | cons a l => rw [Lib.join_cons, List.flatten_cons]; unfold Lib.joinTail; simp
theorem join_any (l : List ByteArray) (v : Value) (w : World) (hv : Strs w v l) (hl : l.length ≤ 140737488355328) (hf : (raw l).flatten.length ≤ 140737488355328) :
    Calls Tryz.prog 89 #[v, .string ⟨#[]⟩] w fun e w' => e = .returned (.string ⟨(raw l).flatten.toArray⟩) ∧ Below w.heap.size w w' := by
  rcases hv.cases with ⟨rfl, a, c, rfl, -⟩ | ⟨b, off, cap, rfl, -, ⟨hb, hcap⟩, hc⟩
  · refine (Tryz.strings_Join_none a c ⟨#[]⟩ w).mono ?_
    rintro e w' ⟨rfl, rfl⟩
    exact ⟨rfl, Below.refl _ _⟩
  · have hj : Lib.join (l.map (·.data.toList)) (⟨#[]⟩ : ByteArray).data.toList = (raw l).flatten := join_none _
    have := Tryz.strings_Join b off cap l ⟨#[]⟩ w (fun j x hx => by
      obtain ⟨hj, rfl⟩ := List.getElem?_eq_some_iff.1 hx
      exact hc j hj) hb hl hcap (by rw [hj]; exact hf)
    rw [hj] at this
    exact this

set_option maxRecDepth 100000 in
set_option maxHeartbeats 4000000 in
theorem readPic_any (b : ByteArray) (w : World) (hb : b.size ≤ 400000) :
    Calls Tryz.prog 58 #[.string b] w fun e w' => e = .returned (.tuple #[.string ⟨(readB b.data.toList).1.toArray⟩, .bool (readB b.data.toList).2]) ∧ Below w.heap.size w w' := by
  have hsp := scan_spec b.data.toList
  have hlen : (scan b.data.toList).1.flatten.length + 8 * (scan b.data.toList).1.length ≤ b.size := by
    rw [← frames_len, hsp.1, List.length_take, Lib.size_eq]; omega
  have HLEN := Lib.hid hlen
  clear hsp hlen
  go_enter Tryz.func58, Tryz.ntmps58
  go_wp2_with fail
  refine (scan_own b _ (by omega)).mono ?_
  rintro e w1 ⟨v, rfl, hb1, l, hl, hown⟩
  have HB1 := Lib.hid hb1
  have HL := Lib.hid hl
  have HT := Lib.hid (show Strs w1 v l from strs_of_own hown)
  clear hb1 hown
  obtain ⟨a, cap, rfl, -⟩ := HT.out.shape
  have hll : l.length ≤ 1000000 := by
    have h1 := congrArg List.length hl
    rw [show (raw l).length = l.length from List.length_map ..] at h1
    have := HLEN.out
    omega
  clear hl
  by_cases h0 : l = []
  · subst h0
    have HE := Lib.hid (show readB b.data.toList = ([], false) from if_pos HL.out.symm)
    go_wp2
    go_ret2
    rw [HE.out]
    exact ⟨rfl, HB1.out⟩
  · have hpos : 0 < l.length := List.length_pos_iff.2 h0
    have t1 : ((l.length : Int) == 0) = false := by rw [beq_eq_false_iff_ne]; omega
    have hne : (scan b.data.toList).1 ≠ [] := by rw [← HL.out]; intro q; apply h0; have h1 := congrArg List.length q; rw [show (raw l).length = l.length from List.length_map ..] at h1; exact List.eq_nil_of_length_eq_zero h1
    have hdl : raw (l.take (l.length - 1)) = (scan b.data.toList).1.dropLast := by rw [← HL.out, List.dropLast_eq_take]; unfold raw; rw [List.map_take, List.length_map]
    have hfl : (scan b.data.toList).1.dropLast.flatten.length ≤ 400000 := by
      have h1 : (scan b.data.toList).1.flatten.length = (scan b.data.toList).1.dropLast.flatten.length + ((scan b.data.toList).1.getLast hne).length := by
        conv => lhs; rw [← List.dropLast_concat_getLast hne]
        rw [List.flatten_append, List.length_append]; simp
      have := HLEN.out
      omega
    have HE := Lib.hid (show readB b.data.toList = ((scan b.data.toList).1.dropLast.flatten, decide (layB (scan b.data.toList).1.dropLast.flatten = b.data.toList)) from if_neg hne)
    have HJ := Lib.hid (join_any (l.take (l.length - 1)) (.slice a (l.length - 1) cap) w1 (HT.out.take _ (by omega)) (by rw [List.length_take]; omega) (by rw [hdl]; omega))
    rw [hdl] at HJ
    have g1 : (0 : Int) ≤ (l.length : Int) - 1 := by omega
    have g2 : (l.length : Int) - 1 ≤ cap := by have := HT.out.cap; omega
    have g3 : ((l.length : Int) - 1).toNat = l.length - 1 := by omega
    have w3 : IntKind.i64.wrap ((l.length : Int) - 1) = (l.length : Int) - 1 := IntWalk.i64_in _ (by omega)
    generalize hst : (scan b.data.toList).1.dropLast.flatten = st at *
    have HST := Lib.hid hfl
    clear hdl hfl hst hne h0
    go_wp2_with fail
    refine HJ.out.mono ?_
    rintro e w2 ⟨rfl, hb2⟩
    have HB2 := Lib.hid (below_step HB1.out hb2)
    have HLY := Lib.hid (lay_any ⟨st.toArray⟩ w2 (by rw [Lib.size_eq]; have := HST.out; simp only; omega))
    clear hb2 w3 g1 g2 g3
    go_wp2_with fail
    refine HLY.out.mono ?_
    rintro e w3 ⟨rfl, hb3⟩
    have HB3 := Lib.hid (below_step HB2.out hb3)
    have HQ := Lib.hid (show ((⟨(layB st).toArray⟩ : ByteArray).toList == b.toList) = decide (layB st = b.data.toList) by
      rw [ByteArray.toList_eq, ByteArray.toList_eq, Bool.eq_iff_iff, beq_iff_eq, decide_eq_true_iff])
    clear hb3
    generalize (⟨(layB st).toArray⟩ : ByteArray) = lb at *
    go_wp2
    go_ret2
    rw [HE.out, ← HQ.out]
    exact ⟨rfl, HB3.out⟩

/-! A store in memory; the names of its files; what find, old and clean do. -/

/-- Block t is a store: its log, its disk, its name, its round, its picture's state; is it broken? -/
def StoreAt (w : World) (t : Nat) (lv dv : Value) (dir : ByteArray) (r : Nat) (base : ByteArray) (br : Bool) : Prop :=
  w.heap[t]? = some (.cells #[lv, dv, .string dir, .int .i64 (r : Int), .string base, .bool br] 57 (0, 0))
section
variable {w W : World} {t d m : Nat} {lv dv : Value} {dir base : ByteArray} {r : Nat} {br : Bool}
theorem StoreAt.facts (h : StoreAt w t lv dv dir r base br) :
    w.cell? ⟨t, 0, none⟩ = some lv ∧ w.cell? ⟨t, 1, none⟩ = some dv ∧ w.cell? ⟨t, 2, none⟩ = some (.string dir) ∧ w.cell? ⟨t, 3, none⟩ = some (.int .i64 (r : Int)) ∧ w.cell? ⟨t, 4, none⟩ = some (.string base) ∧ w.cell? ⟨t, 5, none⟩ = some (.bool br) ∧ t < w.heap.size := by
  have h' : w.heap[t]? = _ := h
  exact ⟨by simp [World.cell?, h'], by simp [World.cell?, h'], by simp [World.cell?, h'], by simp [World.cell?, h'], by simp [World.cell?, h'], by simp [World.cell?, h'], (Array.getElem?_eq_some_iff.1 h').1⟩
theorem StoreAt.free (h : StoreAt w t lv dv dir r base br) (i : Nat) : w.frozen? ⟨t, i, none⟩ = false := by
  have h' : w.heap[t]? = _ := h
  simp [World.frozen?, h']
theorem StoreAt.later (h : StoreAt w t lv dv dir r base br) (hb : Below w.heap.size w W) : StoreAt W t lv dv dir r base br :=
  (hb.block t h.facts.2.2.2.2.2.2).trans h
theorem StoreAt.only (h : StoreAt w t lv dv dir r base br) (ho : Only d m w W) (h1 : t ≠ d) (h2 : t ≠ m) : StoreAt W t lv dv dir r base br :=
  (ho.block t h.facts.2.2.2.2.2.2 h1 h2).trans h
theorem StoreAt.apart {S : St} (h : StoreAt w t lv dv dir r base br) (hd : IsDisk w d m S) : t ≠ d ∧ t ≠ m := by
  have h' : w.heap[t]? = _ := h
  refine ⟨?_, ?_⟩
  · rintro rfl
    rw [hd.cells] at h'
    injection h' with h'
    injection h' with _ h2 _
    exact absurd h2 (by decide)
  · rintro rfl
    rw [hd.map] at h'
    injection h' with h'
    cases h'
theorem StoreAt.setRound (h : StoreAt w t lv dv dir r base br) (n : Nat) : StoreAt (w.setCell ⟨t, 3, none⟩ (.int .i64 (n : Int))) t lv dv dir n base br := setCell_row h _
end

def picName (dir : ByteArray) (n : Nat) : ByteArray := dir ++ ⟨#[46, 115]⟩ ++ ⟨(digs n).toArray⟩
def logName (dir : ByteArray) (n : Nat) : ByteArray := dir ++ ⟨#[46, 108]⟩ ++ ⟨(digs n).toArray⟩
def workName (dir : ByteArray) : ByteArray := dir ++ ⟨#[46, 116]⟩

theorem dig_size {n : Nat} (h : n ≤ 1000000) : (⟨(digs n).toArray⟩ : ByteArray).size ≤ 7 := by rw [Lib.size_eq]; exact digs_short h

set_option maxHeartbeats 2000000 in
set_option maxRecDepth 100000 in
theorem files_own (d m : Nat) (S : St) (w : World) (h : IsDisk w d m S) (hs : Stamps S.files S.clock) (ha : Apart S.files) (hn : ∀ f ∈ S.files, f.name.size ≤ 40) (hl : S.files.length ≤ 1000) :
    Calls Tryz.prog 22 #[.pointer (some ⟨d, 0, none⟩)] w fun e w' => ∃ v, e = .returned v ∧ Texts w' w.heap.size v (namesOf S.files) ∧ Below w.heap.size w w' := by
  obtain ⟨D, hown, hsz, hperm⟩ := owns_files h.map hs ha (fun f hf => by have := hn f hf; unfold maxLen; omega) (by unfold maxLen; omega)
  obtain ⟨-, -, -, -, c4, -⟩ := h.facts
  have hlt := h.lt.1
  have HOWN := Lib.hid hown
  have HSZ := Lib.hid hsz
  have HL := Lib.hid hl
  clear h hown hsz hs ha hn hl
  refine (callsIn_wide (n := 6)).1 ?_
  have hfK : Fence.wide.fn 55 := trivial
  have hfS : Fence.wide.fn 54 := trivial
  refine callsIn_of_wp Tryz.func22 rfl trivial ?_ rfl
  simp only [Tryz.ntmps22, List.size_toArray, List.length_cons, List.length_nil, Nat.reduceAdd, Nat.reduceSub, Array.replicate_succ, Array.replicate_zero, List.push_toArray, List.append_toArray, List.nil_append, List.cons_append]
  gi_wp2_with (first
    | (gi_at_call 55; refine (Tryz.maps_Keys_55 _ _).mono ?_; rintro e w' ⟨rfl, rfl⟩)
    | (gi_at_call 54; refine (Tryz.slices_Sorted_keys_54_55 m S.files.length D anyElem w HOWN.out (by have := HSZ.out; have := HL.out; unfold maxLen; omega) (by have := HSZ.out; have := HL.out; omega)).mono ?_; rintro e w' ⟨v, ss, rfl, hS, hrow, hnil, hb⟩))
  go_ret
  refine ⟨v, rfl, ?_, ((Below.refl _ w).alloc (Nat.le_refl _) _).trans (hb.mono (by simp))⟩
  have e1 : ss.mergeSort (fun x y => decide (x ≤ y)) = keysOf S.files := Go.mergeSort_of_perm (hS.trans hperm)
  have e2 : (keysOf S.files).map Go.Proofs.encStr = (namesOf S.files).map Value.string := by
    unfold namesOf; rw [List.map_map]; rfl
  have e3 : ss.length = (namesOf S.files).length := by
    unfold namesOf; rw [List.length_map, ← e1, List.length_mergeSort]
  rw [e1, e2, e3] at hrow
  exact World.ownsRow.mono hrow (by simp)

set_option maxHeartbeats 2000000 in
theorem picture_any {t : Nat} {lv dv : Value} {dir base : ByteArray} {r : Nat} {br : Bool} (w : World) (h : StoreAt w t lv dv dir r base br) (n : Nat) (hn : n ≤ 1000000) (hd : dir.size ≤ 1000000) :
    Calls Tryz.prog 57 #[.pointer (some ⟨t, 0, none⟩), .int .i64 (n : Int)] w fun e w' => e = .returned (.string (picName dir n)) ∧ Below w.heap.size w w' := by
  have c0 : w.drew.cell? ⟨t, 2, none⟩ = some (.string dir) := h.facts.2.2.1
  have HS := Lib.hid (show StoreAt w.drew t lv dv dir r base br from h)
  have hsz := dig_size hn
  have HN := Lib.hid hn
  clear h hn
  unfold picName
  generalize hvv : (⟨(digs n).toArray⟩ : ByteArray) = vb at *
  have HVB := Lib.hid hvv
  clear hvv
  have k1 : ¬ 9223372036854775807 < dir.size + 2 := by omega
  have k2 : ¬ 9223372036854775807 < dir.size + 2 + vb.size := by omega
  go_enter Tryz.func57, Tryz.ntmps57
  go_wp2_with fail
  go_region_held3 (fun w' => w'.cell? ⟨t, 2, none⟩ = some (.string dir)) (first | exact c0 | exact (HS.out.later (by assumption)).facts.2.2.1) (first | (go_at_call 88; refine (digits_any n _ HN.out).mono ?_; rintro e w1 ⟨rfl, hb1⟩; rw [HVB.out]))
  go_wp2
  go_ret
  exact ⟨rfl, ((below_of_drew w).trans hb1)⟩
set_option maxHeartbeats 2000000 in
theorem slog_any {t : Nat} {lv dv : Value} {dir base : ByteArray} {r : Nat} {br : Bool} (w : World) (h : StoreAt w t lv dv dir r base br) (n : Nat) (hn : n ≤ 1000000) (hd : dir.size ≤ 1000000) :
    Calls Tryz.prog 59 #[.pointer (some ⟨t, 0, none⟩), .int .i64 (n : Int)] w fun e w' => e = .returned (.string (logName dir n)) ∧ Below w.heap.size w w' := by
  have c0 : w.drew.cell? ⟨t, 2, none⟩ = some (.string dir) := h.facts.2.2.1
  have HS := Lib.hid (show StoreAt w.drew t lv dv dir r base br from h)
  have hsz := dig_size hn
  have HN := Lib.hid hn
  clear h hn
  unfold logName
  generalize hvv : (⟨(digs n).toArray⟩ : ByteArray) = vb at *
  have HVB := Lib.hid hvv
  clear hvv
  have k1 : ¬ 9223372036854775807 < dir.size + 2 := by omega
  have k2 : ¬ 9223372036854775807 < dir.size + 2 + vb.size := by omega
  go_enter Tryz.func59, Tryz.ntmps59
  go_wp2_with fail
  go_region_held3 (fun w' => w'.cell? ⟨t, 2, none⟩ = some (.string dir)) (first | exact c0 | exact (HS.out.later (by assumption)).facts.2.2.1) (first | (go_at_call 88; refine (digits_any n _ HN.out).mono ?_; rintro e w1 ⟨rfl, hb1⟩; rw [HVB.out]))
  go_wp2
  go_ret
  exact ⟨rfl, ((below_of_drew w).trans hb1)⟩
set_option maxHeartbeats 2000000 in
theorem work_any {t : Nat} {lv dv : Value} {dir base : ByteArray} {r : Nat} {br : Bool} (w : World) (h : StoreAt w t lv dv dir r base br) (hd : dir.size ≤ 1000000) :
    Calls Tryz.prog 94 #[.pointer (some ⟨t, 0, none⟩)] w fun e w' => e = .returned (.string (workName dir)) ∧ w = w' := by
  have c0 := h.facts.2.2.1
  have k1 : ¬ 9223372036854775807 < dir.size + 2 := by omega
  clear h
  unfold workName
  go_enter Tryz.func94, Tryz.ntmps94
  go_wp2
  go_ret
  exact ⟨rfl, rfl⟩
set_option maxHeartbeats 1000000 in
theorem snone_any {t g : Nat} {dv : Value} {dir base : ByteArray} {r : Nat} {br : Bool} (w : World) (h : StoreAt w t (.pointer (some ⟨g, 0, none⟩)) dv dir r base br) :
    Calls Tryz.prog 61 #[.pointer (some ⟨t, 0, none⟩)] w fun e w' => e = .returned (.bool false) ∧ w = w' := by
  have c0 := h.facts.1
  clear h
  go_enter Tryz.func61, Tryz.ntmps61
  go_wp2
  go_ret
  exact ⟨rfl, rfl⟩
set_option maxHeartbeats 1000000 in
theorem snone_zero {t : Nat} {dv : Value} {dir base : ByteArray} {r : Nat} {br : Bool} (w : World) (h : StoreAt w t (.pointer none) dv dir r base br) :
    Calls Tryz.prog 61 #[.pointer (some ⟨t, 0, none⟩)] w fun e w' => e = .returned (.bool true) ∧ w = w' := by
  have c0 := h.facts.1
  clear h
  go_enter Tryz.func61, Tryz.ntmps61
  go_wp2
  go_ret
  exact ⟨rfl, rfl⟩
set_option maxHeartbeats 1000000 in
theorem snone_nil (w : World) : Calls Tryz.prog 61 #[.pointer none] w fun e w' => e = .returned (.bool true) ∧ w = w' := by
  go_enter Tryz.func61, Tryz.ntmps61
  go_wp2
  go_ret
  exact ⟨rfl, rfl⟩

/-! find: a store's round, out of its files' names. -/

/-! ### find -/
theorem Texts.at {w : World} {base n cap : Nat} {a : Option Addr} {l : List ByteArray} (h : Texts w base (.slice a n cap) l) (k : Nat) (hk : k < l.length) : ∃ b, a = some ⟨b, 0, none⟩ ∧ w.cell? ⟨b, k, none⟩ = some (.string l[k]) := by
  rcases h.2 with ⟨hv, h0⟩ | ⟨g, c, cur, hv, -⟩
  · omega
  · injection hv with h1 h2 h3
    subst h1
    have h1 := World.ownsRow.cells h (g := g) rfl k (.string l[k]) (by rw [List.getElem?_map, List.getElem?_eq_getElem hk]; rfl)
    have hadd : (⟨g, 0, none⟩ : Addr).add k = ⟨g, k, none⟩ := by unfold Addr.add; split <;> simp_all
    rw [hadd] at h1
    exact ⟨g, rfl, h1⟩
def picStep (dir : ByteArray) (r : Nat) (f : ByteArray) : Nat :=
  match numIn f.data.toList (dir ++ ⟨#[46, 115]⟩).data.toList with
  | some n => if r < n then n else r
  | none => r
/-- The greatest number among the pictures' names. -/
def findRound (dir : ByteArray) (r : Nat) (l : List ByteArray) : Nat := l.foldl (picStep dir) r
theorem findRound_next (dir : ByteArray) (r : Nat) (l : List ByteArray) (k : Nat) (h : k < l.length) : findRound dir r (l.take (k + 1)) = picStep dir (findRound dir r (l.take k)) l[k] := by
  unfold findRound
  rw [List.take_succ_eq_append_getElem h, List.foldl_append]; rfl
theorem only_set {t : Nat} {w w' : World} (h : Only t t w w') (i : Nat) (v : Value) : Only t t w (w'.setCell ⟨t, i, none⟩ v) := h.setCell i v
theorem Texts.set {w : World} {base t i : Nat} {v x : Value} {l : List ByteArray} (h : Texts w base v l) (ht : t < base) : Texts (w.setCell ⟨t, i, none⟩ x) base v l :=
  World.ownsRow.kept h (row := some t) ⟨rfl, rfl, rfl, by simp [World.setCell], fun k _ hk => Below.heap_setCell _ _ _ _ (fun q => hk (by rw [q]))⟩ (.inr fun q => by have := (World.ownsRow.lt h t q).1; omega)

set_option maxHeartbeats 4000000 in
set_option maxRecDepth 100000 in
theorem find_any {t d m : Nat} {S : St} {lv : Value} {dir base : ByteArray} {r : Nat} {br : Bool} (w : World) (hO : S.Ok) (hD : IsDisk w d m S) (h : StoreAt w t lv (.pointer (some ⟨d, 0, none⟩)) dir r base br) (hd : dir.size ≤ 1000000) :
    Calls Tryz.prog 56 #[.pointer (some ⟨t, 0, none⟩)] w fun e w' => e = .returned (.tuple #[]) ∧ StoreAt w' t lv (.pointer (some ⟨d, 0, none⟩)) dir (findRound dir r (namesOf S.files)) base br ∧ Only t t w w' := by
  have c1 := h.facts.2.1
  have HS := Lib.hid h
  have HO := Lib.hid hO
  have HD := Lib.hid hD
  have k1 : ¬ 9223372036854775807 < dir.size + 2 := by omega
  clear h hO hD hd
  go_enter Tryz.func56, Tryz.ntmps56
  go_wp2_with fail
  refine (files_own d m S w HD.out HO.out.stamps HO.out.apart HO.out.names (by have := HO.out.few; omega)).mono ?_
  rintro e w1 ⟨v, rfl, ht, hb1⟩
  have HNM := Lib.hid (show ∀ f ∈ namesOf S.files, f.size ≤ 1000000 from fun f hf => by
    obtain ⟨p, x, q, he, hx, -⟩ := has_true ((mem_namesOf _ _).1 hf)
    have := HO.out.names x (by rw [he]; simp)
    rw [hx] at this; omega)
  have hnl : (namesOf S.files).length ≤ 1000000 := by rw [namesOf_length]; have := HO.out.few; omega
  generalize hnames : namesOf S.files = names at *
  have HNE := Lib.hid hnames
  clear hnames
  have HT := Lib.hid ht
  have HS1 := Lib.hid (HS.out.later hb1)
  have HB1 := Lib.hid (show Only t t w w1 from Only.of_below hb1)
  have HLT := Lib.hid HS.out.facts.2.2.2.2.2.2
  obtain ⟨a, cap, rfl, -⟩ := ht.strs.shape
  clear ht hb1
  go_wp2
  go_loopw [12] (fun iv wr => ∃ k : Nat, k ≤ names.length ∧ iv = .int .i64 (k : Int) ∧ StoreAt wr t lv (.pointer (some ⟨d, 0, none⟩)) dir (findRound dir r (names.take k)) base br ∧ Only t t w wr ∧ Texts wr w.heap.size (.slice a names.length cap) names) (fun iv _ => names.length - (intOf iv).toNat)
  case atStart => exact ⟨0, Nat.zero_le _, rfl, HS1.out, HB1.out, HT.out⟩
  case round =>
    obtain ⟨k, hk, rfl, hs, ho, htx⟩ := hrel
    have HSr := Lib.hid hs
    have HOr := Lib.hid ho
    have HTr := Lib.hid htx
    clear hs ho htx
    by_cases hlt : k < names.length
    · obtain ⟨b, rfl, hcell⟩ := HTr.out.at k hlt
      have c2 := HSr.out.facts.2.2.1
      have c3 := HSr.out.facts.2.2.2.1
      have f3 := HSr.out.free 3
      have hns := HNM.out names[k] (List.getElem_mem hlt)
      have HNX := Lib.hid (findRound_next dir r names k hlt)
      generalize names[k] = f at *
      generalize findRound dir r (names.take k) = R at *
      go_wp2_with fail
      refine (inName_any f _ wr hns).mono ?_
      rintro e w2 ⟨⟨x, rfl, hx⟩, rfl⟩
      unfold picStep at HNX
      cases hni : numIn f.data.toList (dir ++ ⟨#[46, 115]⟩).data.toList with
      | none =>
        rw [hni] at HNX
        simp only at HNX
        have HNX' := Lib.hid HNX.out
        clear hni hx HNX
        go_wp2
        go_roundw
        case rel => exact ⟨k + 1, by omega, by go_num, by rw [HNX'.out]; exact HSr.out, HOr.out, HTr.out⟩
        case measure => simp [intOf]; omega
      | some n =>
        rw [hni] at HNX
        simp only at HNX
        obtain rfl : x = n := hx n hni
        clear hni hx
        by_cases hrn : R < n
        · have t1 : (R : Int) < n := by omega
          rw [if_pos hrn] at HNX
          have HNX' := Lib.hid HNX.out
          clear HNX
          go_wp2
          go_roundw
          case rel => exact ⟨k + 1, by omega, by go_num, by rw [HNX'.out]; exact HSr.out.setRound n, only_set HOr.out _ _, HTr.out.set HLT.out⟩
          case measure => simp [intOf]; omega
        · have t1 : ¬ (R : Int) < n := by omega
          rw [if_neg hrn] at HNX
          have HNX' := Lib.hid HNX.out
          clear HNX
          go_wp2
          go_roundw
          case rel => exact ⟨k + 1, by omega, by go_num, by rw [HNX'.out]; exact HSr.out, HOr.out, HTr.out⟩
          case measure => simp [intOf]; omega
    · obtain rfl : k = names.length := by omega
      rw [List.take_length] at HSr
      go_wp2
      refine bodyPost_end (results_none rfl _ _ _) rfl ?_
      rw [HNE.out]
      exact ⟨rfl, HSr.out, HOr.out⟩

/-! old: is a file of another round, or of none? clean removes such files. -/

/-- Is a file of another round, or of none? -/
def oldB (dir : ByteArray) (r : Nat) (f : ByteArray) : Bool :=
  match numIn f.data.toList (dir ++ ⟨#[46, 115]⟩).data.toList with
  | some n => !decide (n = r) || decide (n = 0)
  | none =>
    match numIn (Lib.trimSuffix f.data.toList [126]) (dir ++ ⟨#[46, 108]⟩).data.toList with
    | some n => Lib.hasSuffix f.data.toList [126] || !decide (n = r)
    | none => decide (f = workName dir)

theorem numIn_mk (l : List UInt8) (p : List UInt8) : numIn (⟨l.toArray⟩ : ByteArray).data.toList p = numIn l p := rfl

set_option maxHeartbeats 4000000 in
set_option maxRecDepth 100000 in
theorem old_any {t : Nat} {lv dv : Value} {dir base : ByteArray} {r : Nat} {br : Bool} (w : World) (h : StoreAt w t lv dv dir r base br) (hd : dir.size ≤ 1000000) (f : ByteArray) (hf : f.size ≤ 1000000) :
    Calls Tryz.prog 91 #[.pointer (some ⟨t, 0, none⟩), .string f] w fun e w' => e = .returned (.bool (oldB dir r f)) ∧ w = w' := by
  have c2 := h.facts.2.2.1
  have c3 := h.facts.2.2.2.1
  have HS := Lib.hid h
  have k1 : ¬ 9223372036854775807 < dir.size + 2 := by omega
  have HSX := Lib.hid (Tryz.strings_CutSuffix f ⟨#[126]⟩ w (by omega))
  have hsz : (⟨(Lib.trimSuffix f.data.toList [126]).toArray⟩ : ByteArray).size ≤ 1000000 := by
    have h1 : (Lib.trimSuffix f.data.toList [126]).length ≤ f.data.toList.length := by
      unfold Lib.trimSuffix; split
      · rw [List.length_take]; omega
      · exact Nat.le_refl _
    rw [Lib.size_eq] at hf ⊢
    simp only
    omega
  have HSZ := Lib.hid hsz
  have HD := Lib.hid hd
  clear h hsz hd
  have hol : ∀ x, oldB dir r f = x → Hid (oldB dir r f = x) := fun x h => h
  cases h1 : numIn f.data.toList (dir ++ ⟨#[46, 115]⟩).data.toList with
  | some n =>
    have HE := hol (!decide (n = r) || decide (n = 0)) (by unfold oldB; rw [h1])
    have H1 := Lib.hid h1
    clear h1 hol
    go_enter Tryz.func91, Tryz.ntmps91
    go_wp2_with fail
    refine (inName_any f _ w hf).mono ?_
    rintro e w2 ⟨⟨x, rfl, hx⟩, rfl⟩
    obtain rfl : x = n := hx n H1.out
    rw [show (numIn f.data.toList (dir ++ ⟨#[46, 115]⟩).data.toList).isSome = true by rw [H1.out]; rfl]
    clear hx
    by_cases hnr : n = r
    · subst hnr
      by_cases h0 : n = 0
      · subst h0
        go_wp2
        go_ret
        rw [HE.out]
        exact ⟨rfl, rfl⟩
      · have t1 : ((n : Int) == 0) = false := by rw [beq_eq_false_iff_ne]; omega
        have HEE := Lib.hid (show (!decide (n = n) || decide (n = 0)) = false by simp [h0])
        clear h0
        go_wp2
        go_ret
        rw [HE.out, HEE.out]
        exact ⟨rfl, rfl⟩
    · have t1 : ((n : Int) == (r : Int)) = false := by rw [beq_eq_false_iff_ne]; omega
      have HEE := Lib.hid (show (!decide (n = r) || decide (n = 0)) = true by simp [hnr])
      go_wp2
      go_ret
      rw [HE.out, HEE.out]
      exact ⟨rfl, rfl⟩
  | none =>
    have H1 := Lib.hid h1
    have H1S := Lib.hid (show (numIn f.data.toList (dir ++ ⟨#[46, 115]⟩).data.toList).isSome = false by rw [h1]; rfl)
    have HIN := Lib.hid (inName_any ⟨(Lib.trimSuffix f.data.toList [126]).toArray⟩ (dir ++ ⟨#[46, 108]⟩) w HSZ.out)
    have hms : ∃ b, Lib.hasSuffix f.data.toList [126] = b := ⟨_, rfl⟩
    obtain ⟨b, hb⟩ := hms
    cases h2 : numIn (Lib.trimSuffix f.data.toList [126]) (dir ++ ⟨#[46, 108]⟩).data.toList with
    | some n =>
      have HE := hol (b || !decide (n = r)) (by unfold oldB; rw [h1]; simp only; rw [h2, hb])
      have H2 := Lib.hid h2
      have HB := Lib.hid hb
      clear h1 h2 hb hol
      go_enter Tryz.func91, Tryz.ntmps91
      go_wp2_with fail
      refine (inName_any f _ w hf).mono ?_
      rintro e w2 ⟨⟨x, rfl, hx⟩, rfl⟩
      rw [H1S.out]
      clear hx
      go_wp2_with fail
      refine HSX.out.mono ?_
      rintro e w3 ⟨rfl, rfl⟩
      rw [show Lib.hasSuffix f.data.toList (⟨#[126]⟩ : ByteArray).data.toList = b from HB.out]
      go_wp2_with fail
      refine HIN.out.mono ?_
      rintro e w4 ⟨⟨x, rfl, hx⟩, rfl⟩
      obtain rfl : x = n := hx n H2.out
      rw [show (numIn (⟨(Lib.trimSuffix f.data.toList [126]).toArray⟩ : ByteArray).data.toList (dir ++ ⟨#[46, 108]⟩).data.toList).isSome = true by
        have := H2.out
        rw [show (⟨(Lib.trimSuffix f.data.toList [126]).toArray⟩ : ByteArray).data.toList = Lib.trimSuffix f.data.toList [126] from rfl, this]; rfl]
      clear hx
      cases b
      · by_cases hnr : n = r
        · subst hnr
          have HEE := Lib.hid (show (false || !decide (n = n)) = false by simp)
          go_wp2
          go_ret
          rw [HE.out, HEE.out]
          exact ⟨rfl, rfl⟩
        · have t1 : ((n : Int) != (r : Int)) = true := by rw [bne_iff_ne]; omega
          have HEE := Lib.hid (show (false || !decide (n = r)) = true by simp [hnr])
          go_wp2
          go_ret
          rw [HE.out, HEE.out]
          exact ⟨rfl, rfl⟩
      · have HEE := Lib.hid (show (true || !decide (n = r)) = true from rfl)
        go_wp2
        go_ret
        rw [HE.out, HEE.out]
        exact ⟨rfl, rfl⟩
    | none =>
      have HE := hol (decide (f = workName dir)) (by unfold oldB; rw [h1]; simp only; rw [h2])
      have H2S := Lib.hid (show (numIn (Lib.trimSuffix f.data.toList [126]) (dir ++ ⟨#[46, 108]⟩).data.toList).isSome = false by rw [h2]; rfl)
      have HB := Lib.hid hb
      clear h1 h2 hb hol
      go_enter Tryz.func91, Tryz.ntmps91
      go_wp2_with fail
      refine (inName_any f _ w hf).mono ?_
      rintro e w2 ⟨⟨x, rfl, hx⟩, rfl⟩
      rw [H1S.out]
      clear hx
      go_wp2_with fail
      refine HSX.out.mono ?_
      rintro e w3 ⟨rfl, rfl⟩
      rw [show Lib.hasSuffix f.data.toList (⟨#[126]⟩ : ByteArray).data.toList = b from HB.out]
      go_wp2_with fail
      refine HIN.out.mono ?_
      rintro e w4 ⟨⟨x, rfl, hx⟩, rfl⟩
      rw [show (numIn (⟨(Lib.trimSuffix f.data.toList [126]).toArray⟩ : ByteArray).data.toList (dir ++ ⟨#[46, 108]⟩).data.toList).isSome = false from H2S.out]
      clear hx
      go_wp2_with fail
      refine (work_any _ HS.out HD.out).mono ?_
      rintro e w5 ⟨rfl, rfl⟩
      have HQ := Lib.hid (bytes_eq f (workName dir))
      generalize workName dir = wn at *
      go_wp2
      go_ret
      rw [HE.out, ← HQ.out]
      exact ⟨rfl, rfl⟩

/-- Such files go, up to the first one that does not. -/
def cleanGo (dir : ByteArray) (r : Nat) : List ByteArray → St → Int × St
  | [], S => (0, S)
  | f :: l, S => if oldB dir r f then (if (S.remove f).1 = 0 then cleanGo dir r l (S.remove f).2 else S.remove f) else cleanGo dir r l S
def St.clean (S : St) (dir : ByteArray) (r : Nat) : Int × St := cleanGo dir r (namesOf S.files) S
theorem cleanGo_ok (dir : ByteArray) (r : Nat) : ∀ (l : List ByteArray) (S : St), S.Ok → (cleanGo dir r l S).2.Ok
  | [], _, h => h
  | f :: l, S, h => by
    unfold cleanGo
    split
    · split
      · exact cleanGo_ok dir r l _ (h.remove f)
      · exact h.remove f
    · exact cleanGo_ok dir r l _ h
theorem St.Ok.clean {S : St} (h : S.Ok) (dir : ByteArray) (r : Nat) : (S.clean dir r).2.Ok := cleanGo_ok _ _ _ _ h

set_option maxHeartbeats 4000000 in
set_option maxRecDepth 100000 in
theorem clean_any {t d m : Nat} {S : St} {lv : Value} {dir base : ByteArray} {r : Nat} {br : Bool} (w : World) (hO : S.Ok) (hD : IsDisk w d m S) (h : StoreAt w t lv (.pointer (some ⟨d, 0, none⟩)) dir r base br) (hd : dir.size ≤ 1000000) :
    Calls Tryz.prog 60 #[.pointer (some ⟨t, 0, none⟩)] w fun e w' => e = .returned (.int .i64 (S.clean dir r).1) ∧ IsDisk w' d m (S.clean dir r).2 ∧ Only d m w w' := by
  have c1 := h.facts.2.1
  have HS := Lib.hid h
  have HAP := Lib.hid (h.apart hD)
  have HO := Lib.hid hO
  have HD := Lib.hid hD
  have HSZ := Lib.hid hd
  clear h hO hD hd
  go_enter Tryz.func60, Tryz.ntmps60
  go_wp2_with fail
  refine (files_own d m S w HD.out HO.out.stamps HO.out.apart HO.out.names (by have := HO.out.few; omega)).mono ?_
  rintro e w1 ⟨v, rfl, ht, hb1⟩
  have HNM := Lib.hid (show ∀ f ∈ namesOf S.files, f.size ≤ 1000000 from fun f hf => by
    obtain ⟨p, x, q, he, hx, -⟩ := has_true ((mem_namesOf _ _).1 hf)
    have := HO.out.names x (by rw [he]; simp)
    rw [hx] at this; omega)
  have hnl : (namesOf S.files).length ≤ 1000000 := by rw [namesOf_length]; have := HO.out.few; omega
  have HCL := Lib.hid (show S.clean dir r = cleanGo dir r (namesOf S.files) S from rfl)
  generalize namesOf S.files = names at *
  have HT := Lib.hid ht
  have HS1 := Lib.hid (HS.out.later hb1)
  have HB1 := Lib.hid (show Only d m w w1 from Only.of_below hb1)
  have HD1 := Lib.hid (HD.out.later hb1)
  have HLT := Lib.hid HD.out.lt
  obtain ⟨a, cap, rfl, -⟩ := ht.strs.shape
  clear ht hb1
  go_wp2
  go_loopw [12] (fun iv wr => ∃ (k : Nat) (T : St), k ≤ names.length ∧ iv = .int .i64 (k : Int) ∧ IsDisk wr d m T ∧ T.Ok ∧ cleanGo dir r names S = cleanGo dir r (names.drop k) T ∧ Only d m w wr ∧ Texts wr w.heap.size (.slice a names.length cap) names) (fun iv _ => names.length - (intOf iv).toNat)
  case atStart => exact ⟨0, S, Nat.zero_le _, rfl, HD1.out, HO.out, rfl, HB1.out, HT.out⟩
  case round =>
    obtain ⟨k, T, hk, rfl, hdt, hot, hcl, ho, htx⟩ := hrel
    have HDr := Lib.hid hdt
    have HOt := Lib.hid hot
    have HCr := Lib.hid hcl
    have HOr := Lib.hid ho
    have HTr := Lib.hid htx
    have HSr := Lib.hid (HS.out.only ho HAP.out.1 HAP.out.2)
    clear hdt hot hcl ho htx
    by_cases hlt : k < names.length
    · obtain ⟨b, rfl, hcell⟩ := HTr.out.at k hlt
      have hns := HNM.out names[k] (List.getElem_mem hlt)
      have HNX := Lib.hid (show names.drop k = names[k] :: names.drop (k + 1) from List.drop_eq_getElem_cons hlt)
      have c1' := HSr.out.facts.2.1
      generalize names[k] = f at *
      go_wp2_with fail
      refine (old_any wr HSr.out HSZ.out f hns).mono ?_
      rintro e w2 ⟨rfl, rfl⟩
      cases hold : oldB dir r f
      · have HCX := Lib.hid (show cleanGo dir r names S = cleanGo dir r (names.drop (k + 1)) T by rw [HCr.out, HNX.out]; show (if oldB dir r f then _ else _) = _; rw [hold]; rfl)
        clear hold
        go_wp2
        go_roundw
        case rel => exact ⟨k + 1, T, by omega, by go_num, HDr.out, HOt.out, HCX.out, HOr.out, HTr.out⟩
        case measure => simp [intOf]; omega
      · have HCX := Lib.hid (show cleanGo dir r names S = if (T.remove f).1 = 0 then cleanGo dir r (names.drop (k + 1)) (T.remove f).2 else T.remove f by rw [HCr.out, HNX.out]; show (if oldB dir r f then _ else _) = _; rw [hold]; rfl)
        clear hold
        go_wp2_with fail
        refine (remove_ok HOt.out f HDr.out).mono ?_
        rintro e w3 ⟨rfl, hd3, ho3⟩
        have HD3 := Lib.hid hd3
        have HO3 := Lib.hid (HOr.out.trans ho3)
        have HT3 := Lib.hid (show Texts w3 w.heap.size (.slice (some ⟨b, 0, none⟩) names.length cap) names from HTr.out.only HDr.out ho3)
        have HOK := Lib.hid (HOt.out.remove f)
        clear hd3 ho3
        by_cases h0 : (T.remove f).1 = 0
        · have HCY := Lib.hid (HCX.out.trans (if_pos h0))
          have t1 : ((T.remove f).1 != 0) = false := by rw [h0]; rfl
          clear h0
          go_wp2
          go_roundw
          case rel => exact ⟨k + 1, (T.remove f).2, by omega, by go_num, HD3.out, HOK.out, HCY.out, HO3.out, HT3.out⟩
          case measure => simp [intOf]; omega
        · have HCY := Lib.hid (HCX.out.trans (if_neg h0))
          have t1 : ((T.remove f).1 != 0) = true := by rw [bne_iff_ne]; exact h0
          clear h0
          go_wp2
          go_ret
          rw [HCL.out, HCY.out]
          exact ⟨rfl, HD3.out, HO3.out⟩
    · obtain rfl : k = names.length := by omega
      have HE := Lib.hid (show cleanGo dir r names S = (0, T) by rw [HCr.out, List.drop_length]; rfl)
      go_wp2
      go_ret
      rw [HCL.out, HE.out]
      exact ⟨rfl, HDr.out, HOr.out⟩

/-! snap.Open. -/

/-- The round is known, and its picture's state: the log is opened, and the files of other rounds go. -/
def St.openRest (S : St) (dir : ByteArray) (r : Nat) (base : ByteArray) : Int × St × Option (Nat × ByteArray × LSt) :=
  match (S.openLog (logName dir r)).2.2 with
  | none => ((S.openLog (logName dir r)).1, (S.openLog (logName dir r)).2.1, none)
  | some L => if ((S.openLog (logName dir r)).2.1.clean dir r).1 = 0 then (0, ((S.openLog (logName dir r)).2.1.clean dir r).2, some (r, base, L)) else (((S.openLog (logName dir r)).2.1.clean dir r).1, ((S.openLog (logName dir r)).2.1.clean dir r).2, none)
def St.storeRound (S : St) (dir : ByteArray) : Nat := findRound dir 0 (namesOf S.files)
/-- What Open comes to. -/
def St.openStore (S : St) (dir : ByteArray) : Int × St × Option (Nat × ByteArray × LSt) :=
  if dir.size = 0 ∨ 20 < dir.size then (1, S, none)
  else if S.storeRound dir = 0 then S.openRest dir 0 ⟨#[]⟩
  else if S.on = false then (14, S, none)
  else if has S.files (picName dir (S.storeRound dir)) = false then (7, S, none)
  else if (readB (readData S.files (picName dir (S.storeRound dir))).data.toList).2 then S.openRest dir (S.storeRound dir) ⟨(readB (readData S.files (picName dir (S.storeRound dir))).data.toList).1.toArray⟩
  else (15, S, none)

def StoreOut (o : Int × St × Option (Nat × ByteArray × LSt)) (dir : ByteArray) (d m : Nat) (w : World) (e : Ending) (w' : World) : Prop :=
  IsDisk w' d m o.2.1 ∧ Only d m w w' ∧ match o.2.2 with
    | none => e = .returned (.tuple #[.pointer none, .int .i64 o.1])
    | some (r, base, L) => ∃ t g rv, e = .returned (.tuple #[.pointer (some ⟨t, 0, none⟩), .int .i64 0]) ∧ w.heap.size ≤ t ∧ w.heap.size ≤ g ∧ t ≠ g ∧ StoreAt w' t (.pointer (some ⟨g, 0, none⟩)) (.pointer (some ⟨d, 0, none⟩)) dir r base false ∧ IsLog w' w.heap.size g d rv L ∧ rv.ownBlock ≠ some t

theorem IsDisk.only_tt {w w' : World} {d m t : Nat} {S : St} (h : IsDisk w d m S) (ho : Only t t w w') (h1 : t ≠ d) (h2 : t ≠ m) : IsDisk w' d m S :=
  ⟨(ho.block d h.lt.1 (Ne.symm h1) (Ne.symm h1)).trans h.cells, (ho.block m h.lt.2 (Ne.symm h2) (Ne.symm h2)).trans h.map⟩
theorem Only.of_tt {w0 w w' : World} {d m t : Nat} (h : Only d m w0 w) (ho : Only t t w w') (ht : w0.heap.size ≤ t) : Only d m w0 w' :=
  ⟨ho.os.trans h.os, ho.tape.trans h.tape, ho.output.trans h.output, Nat.le_trans h.size ho.size, fun k hk h1 h2 => (ho.block k (Nat.lt_of_lt_of_le hk h.size) (by omega) (by omega)).trans (h.block k hk h1 h2)⟩
theorem IsLog.set {w : World} {base g d t i : Nat} {rv x : Value} {L : LSt} (h : IsLog w base g d rv L) (ht : t < base) (hg : g ≠ t) : IsLog (w.setCell ⟨t, i, none⟩ x) base g d rv L :=
  ⟨(Below.heap_setCell _ _ _ _ hg).trans h.cells, let ⟨recs, h1, h2⟩ := h.rows; ⟨recs, h1, h2.set ht⟩⟩
theorem StoreAt.setLog {w : World} {t : Nat} {lv dv : Value} {dir base : ByteArray} {r : Nat} {br : Bool} (h : StoreAt w t lv dv dir r base br) (v : Value) : StoreAt (w.setCell ⟨t, 0, none⟩ v) t v dv dir r base br := setCell_row h _
theorem StoreAt.setBase {w : World} {t : Nat} {lv dv : Value} {dir base : ByteArray} {r : Nat} {br : Bool} (h : StoreAt w t lv dv dir r base br) (v : ByteArray) : StoreAt (w.setCell ⟨t, 4, none⟩ (.string v)) t lv dv dir r v br := setCell_row h _
theorem StoreAt.setBroken {w : World} {t : Nat} {lv dv : Value} {dir base : ByteArray} {r : Nat} {br : Bool} (h : StoreAt w t lv dv dir r base br) (v : Bool) : StoreAt (w.setCell ⟨t, 5, none⟩ (.bool v)) t lv dv dir r base v := setCell_row h _
theorem IsDisk.set_tt {w : World} {d m t i : Nat} {S : St} {v : Value} (h : IsDisk w d m S) (h1 : t ≠ d) (h2 : t ≠ m) : IsDisk (w.setCell ⟨t, i, none⟩ v) d m S := h.only_tt ((Only.refl t t w).setCell i v) h1 h2

theorem openLog_none {S : St} {name : ByteArray} (h : (S.openLog name).2.2 = none) : (S.openLog name).1 ≠ 0 := by
  unfold St.openLog at h ⊢
  split at h
  · split at h
    · split at h
      · split at h
        · cases h
        · rename_i h1 h2 h3 h4
          rw [if_pos h1, if_pos h2, if_pos h3, if_neg h4]; exact h4
      · cases h
    · split at h
      · cases h
      · rename_i h1 h2 h3
        rw [if_pos h1, if_neg h2, if_neg h3]; exact h3
  · rename_i h1
    rw [if_neg h1]
    show (14 : Int) ≠ 0
    decide
theorem openLog_ok {S : St} (h : S.Ok) (name : ByteArray) : (S.openLog name).2.1.Ok := by
  have hm : ∀ p, (S.mend name p).2.Ok := fun p => runSteps_ok (fun f hf T hT => by
    simp only [List.mem_cons, List.not_mem_nil, or_false] at hf
    rcases hf with rfl | rfl | rfl | rfl | rfl
    · exact hT.rmIf _
    · exact hT.create _
    · exact hT.append _ _
    · exact hT.sync _
    · exact hT.rename _ _) h
  unfold St.openLog
  split
  · split
    · split
      · split
        · exact hm _
        · exact hm _
      · exact h
    · split
      · exact h.create _
      · exact h.create _
  · exact h
theorem logName_size {dir : ByteArray} {r : Nat} (hd : dir.size ≤ 1000) (hr : r ≤ 1000000) : (logName dir r).size ≤ 1000000 := by
  unfold logName
  rw [ByteArray.size_append, ByteArray.size_append]
  have := dig_size hr
  show dir.size + 2 + _ ≤ _
  omega

/-- What is known ahead of the log. -/
def OpenMid (S : St) (dir : ByteArray) (d m t : Nat) (w0 w : World) : Prop :=
  ∃ base, StoreAt w t (.pointer none) (.pointer (some ⟨d, 0, none⟩)) dir (S.storeRound dir) base false ∧ IsDisk w d m S ∧ Only d m w0 w ∧ w0.heap.size ≤ t ∧ S.openStore dir = S.openRest dir (S.storeRound dir) base

set_option maxHeartbeats 4000000 in
set_option maxRecDepth 100000 in
theorem openStore_any {d m : Nat} {S : St} (dir : ByteArray) (w : World) (hO : S.Ok) (hD : IsDisk w d m S) (hd : dir.size ≤ 1000) (hr : S.storeRound dir ≤ 1000000) :
    Calls Tryz.prog 27 #[.pointer (some ⟨d, 0, none⟩), .string dir] w (StoreOut (S.openStore dir) dir d m w) := by
  have HO := Lib.hid hO
  have HD := Lib.hid hD
  have HSZ := Lib.hid hd
  have HR := Lib.hid hr
  clear hO hD hr
  by_cases hbad : dir.size = 0 ∨ 20 < dir.size
  · have HE := Lib.hid (show S.openStore dir = (1, S, none) from if_pos hbad)
    by_cases h0 : dir.size = 0
    · have he : dir = ⟨#[]⟩ := ByteArray.ext (Array.eq_empty_of_size_eq_zero h0)
      subst he
      clear hbad
      go_enter Tryz.func27, Tryz.ntmps27
      go_wp2
      go_ret2
      rw [HE.out]
      exact ⟨HD.out, Only.refl _ _ _, rfl⟩
    · have hq := string_full h0
      have t1 : decide ((20 : Int) < dir.size) = true := decide_eq_true (by omega)
      clear hbad h0
      go_enter Tryz.func27, Tryz.ntmps27
      go_wp2
      go_ret2
      rw [HE.out]
      exact ⟨HD.out, Only.refl _ _ _, rfl⟩
  · have hq := string_full (s := dir) (by omega)
    have t1 : decide ((20 : Int) < dir.size) = false := decide_eq_false (by omega)
    have HB := Lib.hid hbad
    clear hbad
    go_enter Tryz.func27, Tryz.ntmps27
    go_wp2_with fail
    refine (clone_any dir _ (by omega)).mono ?_
    rintro e w1 ⟨rfl, hb1⟩
    have HB1 := Lib.hid (below_alloc hb1 (.cells #[.pointer none, .pointer (some ⟨d, 0, none⟩), .string dir, .int .i64 0, .string ⟨#[]⟩, .bool false] 57))
    have HS1 := Lib.hid (show StoreAt (w1.alloc (.cells #[.pointer none, .pointer (some ⟨d, 0, none⟩), .string dir, .int .i64 0, .string ⟨#[]⟩, .bool false] 57)) w1.heap.size (.pointer none) (.pointer (some ⟨d, 0, none⟩)) dir 0 ⟨#[]⟩ false from heap_alloc_new w1 _)
    have HT := Lib.hid hb1.size
    clear hb1
    go_wp2_with fail
    refine (find_any _ HO.out (HD.out.later HB1.out) HS1.out (by have := HSZ.out; omega)).mono ?_
    rintro e w2 ⟨rfl, hs2, ho2⟩
    have HAP := Lib.hid (HS1.out.apart (HD.out.later HB1.out))
    have HS2 := Lib.hid (show StoreAt w2 w1.heap.size (.pointer none) (.pointer (some ⟨d, 0, none⟩)) dir (S.storeRound dir) ⟨#[]⟩ false from hs2)
    have HD2 := Lib.hid ((HD.out.later HB1.out).only_tt ho2 HAP.out.1 HAP.out.2)
    have HO2 := Lib.hid ((Only.of_below (d := d) (m := m) HB1.out).of_tt ho2 HT.out)
    have c3 := HS2.out.facts.2.2.2.1
    generalize ht : w1.heap.size = t at *
    clear hs2 ho2 HB1 HS1 ht
    go_upto_if 36 with fail
    go_cut [] from 7 (fun wc => OpenMid S dir d m t w wc)
    case first =>
      by_cases h0 : S.storeRound dir = 0
      · have HE := Lib.hid (show OpenMid S dir d m t w w2 from ⟨⟨#[]⟩, HS2.out, HD2.out, HO2.out, HT.out, by unfold St.openStore; rw [if_neg HB.out, if_pos h0, h0]⟩)
        have t2 : ¬ (0 : Int) < (S.storeRound dir : Int) := by rw [h0]; decide
        have t3 : ¬ 0 < S.storeRound dir := by rw [h0]; decide
        clear h0
        go_wp2
        go_meet
        exact HE.out
      · have HNZ := Lib.hid h0
        have t2 : (0 : Int) < (S.storeRound dir : Int) := by omega
        have t3 : 0 < S.storeRound dir := by omega
        clear h0
        go_wp2_with fail
        refine (picture_any _ HS2.out (S.storeRound dir) HR.out (by have := HSZ.out; omega)).mono ?_
        rintro e w3 ⟨rfl, hb3⟩
        have HS3 := Lib.hid (HS2.out.later hb3)
        have HD3 := Lib.hid (HD2.out.later hb3)
        have HO3 := Lib.hid (HO2.out.trans (Only.of_below hb3))
        clear hb3
        go_wp2_with fail
        refine (read_any d m S (picName dir (S.storeRound dir)) _ HD3.out).mono ?_
        rintro e w4 ⟨rfl, hb4⟩
        have HS4 := Lib.hid (HS3.out.later hb4)
        have HD4 := Lib.hid (HD3.out.later hb4)
        have HO4 := Lib.hid (HO3.out.trans (Only.of_below hb4))
        clear hb4
        cases hon : S.on
        · have HE := Lib.hid (show S.openStore dir = (14, S, none) by unfold St.openStore; rw [if_neg HB.out, if_neg HNZ.out, if_pos hon])
          clear hon
          go_wp2
          go_ret2
          rw [HE.out]
          exact ⟨HD4.out, HO4.out, rfl⟩
        · cases hh : has S.files (picName dir (S.storeRound dir))
          · have HE := Lib.hid (show S.openStore dir = (7, S, none) by unfold St.openStore; rw [if_neg HB.out, if_neg HNZ.out, if_neg (by rw [hon]; decide), if_pos hh])
            have HL := Lib.hid (lackErr_false hh)
            clear hon hh
            rw [HL.out]
            go_wp2
            go_ret2
            rw [HE.out]
            exact ⟨HD4.out, HO4.out, rfl⟩
          · have HE0 := Lib.hid (show S.openStore dir = if (readB (readData S.files (picName dir (S.storeRound dir))).data.toList).2 then S.openRest dir (S.storeRound dir) ⟨(readB (readData S.files (picName dir (S.storeRound dir))).data.toList).1.toArray⟩ else (15, S, none) by
              unfold St.openStore; rw [if_neg HB.out, if_neg HNZ.out, if_neg (by rw [hon]; decide), if_neg (by rw [hh]; decide)])
            have HL := Lib.hid (lackErr_true hh)
            have HDS := Lib.hid (show (readData S.files (picName dir (S.storeRound dir))).size ≤ 400000 by
              obtain ⟨fp, f, fq, he, hf, hfp⟩ := has_true hh
              have h1 : readData S.files (picName dir (S.storeRound dir)) = f.data := by unfold readData; rw [he, fileOf_hit hf hfp]
              have h2 := sizeAll_mem (show f ∈ S.files by rw [he]; simp)
              have := HO.out.room
              rw [h1]; omega)
            clear hon hh
            rw [HL.out]
            generalize readData S.files (picName dir (S.storeRound dir)) = pd at *
            go_wp2_with fail
            refine (readPic_any pd _ HDS.out).mono ?_
            rintro e w5 ⟨rfl, hb5⟩
            have HS5 := Lib.hid (HS4.out.later hb5)
            have HD5 := Lib.hid (HD4.out.later hb5)
            have HO5 := Lib.hid (HO4.out.trans (Only.of_below hb5))
            clear hb5
            cases hok : (readB pd.data.toList).2
            · have HE := Lib.hid (show S.openStore dir = (15, S, none) by rw [HE0.out, hok]; rfl)
              clear hok
              go_wp2
              go_ret2
              rw [HE.out]
              exact ⟨HD5.out, HO5.out, rfl⟩
            · have HE := Lib.hid (show S.openStore dir = S.openRest dir (S.storeRound dir) ⟨(readB pd.data.toList).1.toArray⟩ by rw [HE0.out, hok]; rfl)
              have f4 := HS5.out.free 4
              have c4 := HS5.out.facts.2.2.2.2.1
              clear hok
              go_wp2
              go_meet
              exact ⟨_, HS5.out.setBase _, HD5.out.set_tt HAP.out.1 HAP.out.2, HO5.out.of_tt ((Only.refl t t w5).setCell 4 _) HT.out, HT.out, HE.out⟩
    obtain ⟨base, hs, hd3, ho3, ht3, he3⟩ := hcut
    have HS3 := Lib.hid hs
    have HD3 := Lib.hid hd3
    have HO3 := Lib.hid ho3
    have HE := Lib.hid he3
    have c3' := hs.facts.2.2.2.1
    clear hs hd3 ho3 he3 HS2 HD2 HO2 c3
    go_wp2_with fail
    refine (slog_any _ HS3.out (S.storeRound dir) HR.out (by have := HSZ.out; omega)).mono ?_
    rintro e w4 ⟨rfl, hb4⟩
    have HS4 := Lib.hid (HS3.out.later hb4)
    have HD4 := Lib.hid (HD3.out.later hb4)
    have HO4 := Lib.hid (HO3.out.trans (Only.of_below hb4))
    clear hb4 c3'
    go_wp2_with fail
    refine (open_any HO.out HD4.out (logName dir (S.storeRound dir)) (logName_size HSZ.out HR.out)).mono ?_
    rintro e w5 ⟨hd5, ho5, hm⟩
    have HD5 := Lib.hid hd5
    have HS5 := Lib.hid (HS4.out.only ho5 HAP.out.1 HAP.out.2)
    have HO5 := Lib.hid (HO4.out.trans ho5)
    have HW4 := Lib.hid (show w.heap.size ≤ w4.heap.size ∧ t < w4.heap.size from ⟨HO4.out.size, HS4.out.facts.2.2.2.2.2.2⟩)
    clear hd5 ho5
    cases hl : (S.openLog (logName dir (S.storeRound dir))).2.2 with
    | none =>
      rw [hl] at hm
      simp only at hm
      subst hm
      have hnz := openLog_none hl
      have t2 : ((S.openLog (logName dir (S.storeRound dir))).1 != 0) = true := by rw [bne_iff_ne]; exact hnz
      have HER := Lib.hid (show S.openRest dir (S.storeRound dir) base = ((S.openLog (logName dir (S.storeRound dir))).1, (S.openLog (logName dir (S.storeRound dir))).2.1, none) by unfold St.openRest; rw [hl])
      clear hl hnz
      go_wp2
      go_ret2
      rw [HE.out, HER.out]
      exact ⟨HD5.out, HO5.out, rfl⟩
    | some L =>
      rw [hl] at hm
      obtain ⟨g, rv, rfl, hg, hlog⟩ := hm
      have HG := Lib.hid hg
      have HLOG := Lib.hid hlog
      have HER := Lib.hid (show S.openRest dir (S.storeRound dir) base = if ((S.openLog (logName dir (S.storeRound dir))).2.1.clean dir (S.storeRound dir)).1 = 0 then (0, ((S.openLog (logName dir (S.storeRound dir))).2.1.clean dir (S.storeRound dir)).2, some ((S.storeRound dir), base, L)) else (((S.openLog (logName dir (S.storeRound dir))).2.1.clean dir (S.storeRound dir)).1, ((S.openLog (logName dir (S.storeRound dir))).2.1.clean dir (S.storeRound dir)).2, none) by unfold St.openRest; rw [hl])
      have HTK := Lib.hid (openLog_ok HO.out (logName dir (S.storeRound dir)))
      have f0 := HS5.out.free 0
      have c0 := HS5.out.facts.1
      generalize (S.openLog (logName dir (S.storeRound dir))).2.1 = T at *
      generalize hR : S.storeRound dir = R at *
      clear hl hg hlog hR
      go_wp2_with fail
      refine (clean_any _ HTK.out (HD5.out.set_tt HAP.out.1 HAP.out.2) (HS5.out.setLog _) (by have := HSZ.out; omega)).mono ?_
      rintro e w6 ⟨rfl, hd6, ho6⟩
      have HD6 := Lib.hid hd6
      have hset := HD5.out.set_tt (i := 0) (v := .pointer (some ⟨g, 0, none⟩)) HAP.out.1 HAP.out.2
      have HGT := Lib.hid (show g ≠ t by have := HG.out; have := HW4.out.2; omega)
      have HL6 := Lib.hid ((HLOG.out.set (i := 0) (x := .pointer (some ⟨g, 0, none⟩)) HW4.out.2 HGT.out).only hset ho6)
      have HS6 := Lib.hid ((HS5.out.setLog (.pointer (some ⟨g, 0, none⟩))).only ho6 HAP.out.1 HAP.out.2)
      have HO6 := Lib.hid ((HO5.out.of_tt ((Only.refl t t w5).setCell 0 (.pointer (some ⟨g, 0, none⟩))) HT.out).trans ho6)
      clear hd6 ho6 hset c0 f0
      by_cases h0 : (T.clean dir R).1 = 0
      · have HEE := Lib.hid (HER.out.trans (if_pos h0))
        have t2 : ((T.clean dir R).1 != 0) = false := by rw [h0]; rfl
        clear h0
        go_wp2
        go_ret2
        rw [HE.out, HEE.out]
        exact ⟨HD6.out, HO6.out, t, g, rv, rfl, HT.out, by have := HG.out; have := HW4.out.1; omega, Ne.symm HGT.out, HS6.out, HL6.out.mono HW4.out.1, fun q => by have := (HL6.out.row t q).1; have := HW4.out.2; omega⟩
      · have HEE := Lib.hid (HER.out.trans (if_neg h0))
        have t2 : ((T.clean dir R).1 != 0) = true := by rw [bne_iff_ne]; exact h0
        clear h0
        go_wp2
        go_ret2
        rw [HE.out, HEE.out]
        exact ⟨HD6.out, HO6.out, rfl⟩

end Go.Proofs.YtncpeaamfmfcgaaGreat
