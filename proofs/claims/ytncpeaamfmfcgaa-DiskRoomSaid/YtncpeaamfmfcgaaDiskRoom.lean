/- DiskRoom: there is room for just so many files, and so many bytes; what is removed gives its room back. -/
import Derived.Test.YtncpeaamfmfcgaaDiskFuses
import Derived.Test.YtncpeaamfmfcgaaDiskHolds
import Derived.Deep.OwnRows
namespace Go.Proofs.Ytncpeaamfmfcgaa
open Go.RowKit

def roomS (n : Nat) : St := ⟨true, false, 0, n, filesN (min n 40), min n 40⟩
theorem roomS_ok {n : Nat} (hn : n ≤ 90) : (roomS n).Ok :=
  filesN_ok (i := min n 40) (by omega) rfl rfl ⟨by show n ≤ _; omega, by show (-9223372036854775808 : Int) ≤ 0; omega, by show (0 : Int) ≤ 9223372036854775807; omega⟩
theorem room_create {i : Nat} (hi : i < 40) : (roomS i).create (nm i) = (0, roomS (i + 1)) := by
  have h1 := op_plain (S := roomS i) (by show i ≤ 100; omega) rfl
  have e1 : min i 40 = i := by omega
  have e2 : min (i + 1) 40 = i + 1 := by omega
  have hf : (roomS i).files = filesN i := by show filesN (min i 40) = _; rw [e1]
  have he : createErr (roomS i) (nm i) = 0 := by
    unfold createErr
    rw [nm_valid, if_pos rfl, hf, has_filesN i (by omega), if_neg (by simp), filesN_length, if_neg (by omega)]
  refine (does_ok rfl h1.2 he).trans ?_
  rw [h1.1]
  show (0, (⟨true, false, 0, i + 1, filesN (min i 40) ++ [newFE (nm i) (min i 40)], min i 40 + 1⟩ : St)) = (0, ⟨true, false, 0, i + 1, filesN (min (i + 1) 40), min (i + 1) 40⟩)
  rw [e1, e2, filesN_succ]
theorem room_full {i : Nat} (hi : 40 ≤ i) (hi2 : i ≤ 90) : (roomS i).create (nm i) = (10, roomS (i + 1)) := by
  have h1 := op_plain (S := roomS i) (by show i ≤ 100; omega) rfl
  have e1 : min i 40 = 40 := by omega
  have e2 : min (i + 1) 40 = 40 := by omega
  have hf : (roomS i).files = filesN 40 := by show filesN (min i 40) = _; rw [e1]
  have hh : has (filesN 40) (nm i) = false := by
    unfold has
    rw [List.any_eq_false]
    intro f hf
    obtain ⟨j, hj, rfl⟩ := mem_filesN hf
    rw [decide_eq_true_iff]
    intro h
    have := nm_inj (by omega) (by omega) h
    omega
  have he : createErr (roomS i) (nm i) = 10 := by
    unfold createErr
    rw [nm_valid, if_pos rfl, hf, hh, if_neg (by simp), filesN_length, if_pos (by omega)]
  refine (does_err rfl h1.2 (by rw [he]; decide)).trans ?_
  rw [he, h1.1]
  show (10, (⟨true, false, 0, i + 1, filesN (min i 40), min i 40⟩ : St)) = (10, ⟨true, false, 0, i + 1, filesN (min (i + 1) 40), min (i + 1) 40⟩)
  rw [e1, e2]

theorem sizeAll_zero {l : List FE} (h : ∀ f ∈ l, f.data.size = 0) : sizeAll l = 0 := by
  induction l with
  | nil => rfl
  | cons f l ih =>
    have h1 := h f (by simp)
    have h2 := ih fun x hx => h x (by simp [hx])
    simp only [sizeAll, h1, h2]
theorem has_zero {k : Nat} (hk : 0 < k) : has (filesN k) (nm 0) = true := by
  rw [has_names]
  exact List.mem_map.2 ⟨newFE (nm 0) 0, List.mem_map.2 ⟨0, List.mem_range.2 hk, rfl⟩, rfl⟩
theorem has_upd (l : List FE) (s t : ByteArray) (g : FE → FE) (hg : ∀ f, (g f).name = f.name) : has (upd l s g) t = has l t := by
  rw [Bool.eq_iff_iff, has_names, has_names, upd_names l s g hg]

/-- What the four steps behind the loop say. -/
theorem room_steps {n : Nat} (h0 : 0 < n) (hn : n ≤ 60) (b b' : ByteArray) (hb' : b'.size ≤ 400000) :
    ((roomS n).append (nm 0) b).1 = (if b.size ≤ 400000 then 0 else 10) ∧
    (((roomS n).append (nm 0) b).2.remove (nm 0)).1 = 0 ∧
    ((((roomS n).append (nm 0) b).2.remove (nm 0)).2.create (nm 0)).1 = 0 ∧
    (((((roomS n).append (nm 0) b).2.remove (nm 0)).2.create (nm 0)).2.append (nm 0) b').1 = 0 := by
  have hO := roomS_ok (n := n) (by omega)
  have hO1 := hO.append (nm 0) b
  have h1 := op_plain (S := roomS n) (by show n ≤ 100; omega) rfl
  have hh : has (roomS n).files (nm 0) = true := has_zero (by omega)
  have hz : sizeAll (roomS n).files = 0 := filesN_size _
  have he : appErr (roomS n) (nm 0) b = if b.size ≤ 400000 then 0 else 10 := by
    unfold appErr; rw [hh, hz, Nat.zero_add, if_pos rfl]
  have hS : ∃ F, (roomS n).append (nm 0) b = (if b.size ≤ 400000 then 0 else 10, { roomS n with ops := n + 1, files := F }) ∧ has F (nm 0) = true ∧ F.length ≤ 40 ∧ ∀ f ∈ F, f.name ≠ nm 0 → f.data.size = 0 := by
    unfold St.append
    rw [he, h1.2, h1.1]
    have hd : ∀ f ∈ (roomS n).files, f.data.size = 0 := fun f hf => by
      obtain ⟨j, _, rfl⟩ := mem_filesN hf; rfl
    by_cases hb : b.size ≤ 400000
    · rw [if_pos hb]
      refine ⟨upd (roomS n).files (nm 0) (appFE b), rfl, by rw [has_upd]; exact hh; exact fun _ => rfl, by rw [upd_length]; exact hO.few, fun f hf hne => ?_⟩
      obtain ⟨x, hx, rfl⟩ := List.mem_map.1 hf
      by_cases hx0 : x.name = nm 0
      · rw [if_pos hx0] at hne; exact absurd hx0 hne
      · rw [if_neg hx0]; exact hd x hx
    · rw [if_neg hb]
      exact ⟨(roomS n).files, rfl, hh, hO.few, fun f hf _ => hd f hf⟩
  obtain ⟨F, hSF, hF1, hF2, hF3⟩ := hS
  rw [hSF] at hO1 ⊢
  have hr : ({ roomS n with ops := n + 1, files := F } : St).remove (nm 0) = (0, { roomS n with ops := n + 2, files := del F (nm 0) }) := by
    have h2 := op_plain (S := { roomS n with ops := n + 1, files := F }) (by show n + 1 ≤ 100; omega) rfl
    refine (does_ok rfl h2.2 (lackErr_true hF1)).trans ?_
    rw [h2.1]
  have hO2 := hO1.remove (nm 0)
  rw [hr] at hO2 ⊢
  have hdel : has (del F (nm 0)) (nm 0) = false ∧ (del F (nm 0)).length < 40 ∧ sizeAll (del F (nm 0)) = 0 := by
    obtain ⟨p, f, q, rfl, hf, hp⟩ := has_true hF1
    have ha : Apart (p ++ f :: q) := hO1.apart
    have hq : ∀ x ∈ q, x.name ≠ nm 0 := hf ▸ ha.mid.2
    rw [del_hit hf hp hq]
    rw [List.length_append, List.length_cons] at hF2
    refine ⟨?_, by rw [List.length_append]; omega, sizeAll_zero fun x hx => ?_⟩
    · unfold has
      rw [List.any_eq_false]
      intro x hx
      rw [decide_eq_true_iff]
      rcases List.mem_append.1 hx with h | h
      · exact hp x h
      · exact hq x h
    · rcases List.mem_append.1 hx with h | h
      · exact hF3 x (by simp [h]) (hp x h)
      · exact hF3 x (by simp [h]) (hq x h)
  have hc : ({ roomS n with ops := n + 2, files := del F (nm 0) } : St).create (nm 0) = (0, { roomS n with ops := n + 3, files := del F (nm 0) ++ [newFE (nm 0) (min n 40)], clock := min n 40 + 1 }) := by
    have h2 := op_plain (S := { roomS n with ops := n + 2, files := del F (nm 0) }) (by show n + 2 ≤ 100; omega) rfl
    have he2 : createErr ({ roomS n with ops := n + 2, files := del F (nm 0) } : St) (nm 0) = 0 := by
      unfold createErr
      rw [nm_valid, if_pos rfl, if_neg (by rw [hdel.1]; simp), if_neg (by have := hdel.2.1; show ¬ 40 ≤ (del F (nm 0)).length; omega)]
    refine (does_ok rfl h2.2 he2).trans ?_
    rw [h2.1]; rfl
  rw [hc]
  refine ⟨rfl, rfl, rfl, ?_⟩
  have h2 := op_plain (S := { roomS n with ops := n + 3, files := del F (nm 0) ++ [newFE (nm 0) (min n 40)], clock := min n 40 + 1 }) (by show n + 3 ≤ 100; omega) rfl
  have he3 : appErr ({ roomS n with ops := n + 3, files := del F (nm 0) ++ [newFE (nm 0) (min n 40)], clock := min n 40 + 1 } : St) (nm 0) b' = 0 := by
    unfold appErr
    rw [show has (del F (nm 0) ++ [newFE (nm 0) (min n 40)]) (nm 0) = true by rw [has_names]; simp [newFE], if_pos rfl, if_pos]
    show sizeAll (del F (nm 0) ++ [newFE (nm 0) (min n 40)]) + b'.size ≤ 400000
    rw [sizeAll_append, hdel.2.2]
    show 0 + (0 + 0) + b'.size ≤ 400000; omega
  unfold St.append
  rw [he3, h2.2]; rfl

theorem infoByte : (Try.prog.info? 5).map (fun i => (i.zero, i.size, i.bytes)) = some (some (.int .u8 0), 1, 1) := by kernel_rfl
theorem made_cells (m : Nat) (w : World) (t : TypeId) : ∀ j (hj : j < (List.replicate m (0 : UInt8)).length), (w.alloc (.cells (madeCells #[.int .u8 0] m) t)).cell? ((⟨w.heap.size, 0, none⟩ : Addr).add j) = some (.int .u8 (((List.replicate m (0 : UInt8))[j]).toNat : Int)) := by
  intro j hj
  have hadd : (⟨w.heap.size, 0, none⟩ : Addr).add j = ⟨w.heap.size, j, none⟩ := by unfold Addr.add; split <;> simp_all
  rw [hadd, World.cell?_alloc_at _ _ _ _ rfl]
  have hjm : j < m := by simpa using hj
  simp [madeCells, hjm, Nat.mod_one]

theorem first4 : ∀ g1 g2 g3 g4 : Bool, g1 = true ∨ (g1 = false ∧ g2 = true) ∨ (g1 = false ∧ g2 = false ∧ g3 = true) ∨ (g1 = false ∧ g2 = false ∧ g3 = false ∧ g4 = true) ∨ (g1 = false ∧ g2 = false ∧ g3 = false ∧ g4 = false) := by
  intro g1 g2 g3 g4
  cases g1 <;> cases g2 <;> cases g3 <;> cases g4 <;> simp

set_option maxHeartbeats 4000000 in
set_option maxRecDepth 100000 in
theorem walk_room (w0 : World) (n : Int) (hn : -9223372036854775808 ≤ n ∧ n ≤ 9223372036854775807) (k : Int) (hk : -9223372036854775808 ≤ k ∧ k ≤ 9223372036854775807) :
    Calls Try.prog 4 #[.int .i64 n, .int .i64 k] w0 fun e w' => e = .returned (.bool true) ∧ Below w0.heap.size w0 w' := by
  obtain ⟨n1, n2⟩ := hn
  obtain ⟨k1, k2⟩ := hk
  rcases first4 (decide (n < 0)) (decide (60 < n)) (decide (k < 0)) (decide (500000 < k)) with t1 | ⟨t1, t2⟩ | ⟨t1, t2, t3⟩ | ⟨t1, t2, t3, t4⟩ | ⟨t1, t2, t3, t4⟩
  rotate_left 4
  · obtain ⟨N, rfl⟩ := Int.eq_ofNat_of_zero_le (show 0 ≤ n by have := of_decide_eq_false t1; omega)
    obtain ⟨M, rfl⟩ := Int.eq_ofNat_of_zero_le (show 0 ≤ k by have := of_decide_eq_false t3; omega)
    have hN : N ≤ 60 := by have := of_decide_eq_false t2; omega
    have hM : M ≤ 500000 := by have := of_decide_eq_false t4; omega
    have hN' : (N : Int) ≤ 60 := by omega
    have hM' : (M : Int) ≤ 500000 := by omega
    clear n1 n2 k1 k2
    have hmk := fun w => run_make_row' (P := Try.prog) 32 5 (.int .u8 0) 1 Try.underlying32 infoByte rfl .i64 .i64 M (by omega) (by omega) w
    go_enter Try.func4, Try.ntmps4
    go_wp2_with fail
    refine (new_ex _).mono ?_
    rintro e w1 ⟨d, m, hd, hm, rfl, hd1, hb1⟩
    have HD1 := Lib.hid (show IsDisk w1 d m (roomS 0) from hd1)
    clear hd1
    go_wp2
    go_loopw [6, 7] (fun c iv wr => ∃ i : Nat, i ≤ N ∧ c = .int .i64 ((min i 40 : Nat) : Int) ∧ iv = .int .i64 i ∧ IsDisk wr d m (roomS i) ∧ Only d m w1 wr) (fun _ iv _ => N - (intOf iv).toNat)
    case atStart => exact ⟨0, Nat.zero_le _, rfl, rfl, HD1.out, Only.refl _ _ _⟩
    case round =>
      obtain ⟨i, hi, rfl, rfl, hd3, ho⟩ := hrel
      have HD3 := Lib.hid hd3
      clear hd3
      have hi' : (i : Int) ≤ 60 := by omega
      have hcv := run_convert_bytes_back (P := Try.prog) _ 32 9 5 ⟨wr.heap.size, 0, none⟩ 2 [102, UInt8.ofNat (48 + i)] Try.underlying32 Try.underlying5 Try.underlying9 (nm_cells i (by omega) wr 5)
      rw [show (⟨[102, UInt8.ofNat (48 + i)].toArray⟩ : ByteArray) = nm i from rfl] at hcv
      simp only [List.length_cons, List.length_nil, Nat.reduceAdd] at hcv
      have hbA := below_alloc (Below.refl _ wr) (.cells #[.int .u8 102, .int .u8 (48 + (i : Int))] 5)
      rcases Nat.lt_or_ge i N with hin | hin
      · have ti : decide ((i : Int) < (N : Int)) = true := decide_eq_true (by omega)
        rcases Nat.lt_or_ge i 40 with h40 | h40
        · have e1 : min i 40 = i := by omega
          have e2 : ((min (i + 1) 40 : Nat) : Int) = (i : Int) + 1 := by omega
          have E2 := Lib.hid e2
          rw [e1]
          clear e1 e2
          go_wp2_with (first
            | (go_at_call 11; refine (create_ok (roomS_ok (by omega)) (nm i) (by rw [nm_size]; omega) (HD3.out.later hbA)).mono ?_; rw [room_create h40]; rintro e w5 ⟨rfl, hd5, ho5⟩))
          go_roundw
          case rel => exact ⟨i + 1, hin, by rw [E2.out], rfl, hd5, ho.trans ((Only.of_below hbA).trans ho5)⟩
          case measure => show N - ((i + 1 : Nat) : Int).toNat < N - (i : Int).toNat; omega
        · have e1 : min i 40 = 40 := by omega
          have e2 : ((min (i + 1) 40 : Nat) : Int) = 40 := by omega
          have E2 := Lib.hid e2
          rw [e1]
          clear e1 e2
          go_wp2_with (first
            | (go_at_call 11; refine (create_ok (roomS_ok (by omega)) (nm i) (by rw [nm_size]; omega) (HD3.out.later hbA)).mono ?_; rw [room_full h40 (by omega)]; rintro e w5 ⟨rfl, hd5, ho5⟩))
          go_roundw
          case rel => exact ⟨i + 1, hin, by rw [E2.out], rfl, hd5, ho.trans ((Only.of_below hbA).trans ho5)⟩
          case measure => show N - ((i + 1 : Nat) : Int).toNat < N - (i : Int).toNat; omega
      · obtain rfl : i = N := Nat.le_antisymm hi hin
        have ti : decide ((i : Int) < (i : Int)) = false := decide_eq_false (by omega)
        have hmin : min (i : Int) 40 = ((min i 40 : Nat) : Int) := by omega
        rw [← hmin]
        rcases Nat.eq_zero_or_pos i with h0 | h0
        · have tz : ((i : Int) == 0) = true := beq_iff_eq.2 (by omega)
          go_wp2_with fail
          refine (alive_any _).mono ?_
          rintro e w3 ⟨rfl, hb3⟩
          go_wp2
          go_ret
          exact ⟨rfl, ho.below hb1 hb1.size hd hm |>.trans (hb3.mono (Nat.le_trans hb1.size ho.size))⟩
        have tz : ((i : Int) == 0) = false := beq_eq_false_iff_ne.2 (by omega)
        obtain ⟨b, hbs, hcb⟩ : ∃ b : ByteArray, b.size = M ∧ (convert 32 9 (.slice (some ⟨wr.heap.size, 0, none⟩) M M)).run Try.prog (wr.alloc (.cells (madeCells #[.int .u8 0] M) 5)) = .ok (.string b) (wr.alloc (.cells (madeCells #[.int .u8 0] M) 5)) := by
          have h := run_convert_bytes_back (P := Try.prog) _ 32 9 5 ⟨wr.heap.size, 0, none⟩ M (List.replicate M 0) Try.underlying32 Try.underlying5 Try.underlying9 (made_cells M wr 5)
          rw [List.length_replicate] at h
          exact ⟨_, by simp [ByteArray.size], h⟩
        have hbB := below_alloc (Below.refl _ wr) (.cells (madeCells #[.int .u8 0] M) 5)
        have HBS := Lib.hid hbs
        have HR := Lib.hid (roomS_ok (n := i) (by omega))
        have hbs' : (b.size : Int) = M := by omega
        rcases Nat.lt_or_ge 400000 M with hbig | hsmall
        · have tb : decide ((M : Int) ≤ 400000) = false := decide_eq_false (by omega)
          have hmi : min (M : Int) 400000 = 400000 := by omega
          have hlo : (400000 : Int) ≤ M := by omega
          have hst := room_steps h0 (by omega) b (b.extract 0 400000) (by rw [ByteArray.size_extract]; omega)
          rw [if_neg (by omega)] at hst
          have HST := Lib.hid hst
          clear hst hcv hi
          go_wp2_with fail
          refine (append_ok HR.out (nm 0) b (by have := HBS.out; omega) (HD3.out.later hbB)).mono ?_
          rintro e w4 ⟨rfl, hd4, ho4⟩
          rw [HST.out.1]
          have HO4 := Lib.hid (HR.out.append (nm 0) b)
          have HD4 := Lib.hid hd4
          clear hd4
          go_wp2_with fail
          refine (remove_ok HO4.out (nm 0) HD4.out).mono ?_
          rintro e w5 ⟨rfl, hd5, ho5⟩
          rw [HST.out.2.1]
          have HO5 := Lib.hid (HO4.out.remove (nm 0))
          have HD5 := Lib.hid hd5
          clear hd5
          go_wp2_with fail
          refine (create_ok HO5.out (nm 0) (by rw [nm_size]; omega) HD5.out).mono ?_
          rintro e w6 ⟨rfl, hd6, ho6⟩
          rw [HST.out.2.2.1]
          have HO6 := Lib.hid (HO5.out.create (nm 0))
          have HD6 := Lib.hid hd6
          clear hd6
          go_wp2_with fail
          refine (append_ok HO6.out (nm 0) (b.extract 0 400000) (by have := HBS.out; (try rw [ByteArray.size_extract]); omega) HD6.out).mono ?_
          rintro e w7 ⟨rfl, hd7, ho7⟩
          rw [HST.out.2.2.2]
          go_wp2_with fail
          refine (alive_any _).mono ?_
          rintro e w8 ⟨rfl, hb8⟩
          go_wp2
          go_ret
          have hO := ho.trans ((Only.of_below hbB).trans (ho4.trans (ho5.trans (ho6.trans ho7))))
          exact ⟨rfl, (hO.below hb1 hb1.size hd hm).trans (hb8.mono (Nat.le_trans hb1.size hO.size))⟩
        · have tb : decide ((M : Int) ≤ 400000) = true := decide_eq_true (by omega)
          have hmi : min (M : Int) 400000 = M := by omega
          have hst := room_steps h0 (by omega) b (b.extract 0 M) (by rw [ByteArray.size_extract]; omega)
          rw [if_pos (by omega)] at hst
          have HST := Lib.hid hst
          clear hst hcv hi
          go_wp2_with fail
          refine (append_ok HR.out (nm 0) b (by have := HBS.out; omega) (HD3.out.later hbB)).mono ?_
          rintro e w4 ⟨rfl, hd4, ho4⟩
          rw [HST.out.1]
          have HO4 := Lib.hid (HR.out.append (nm 0) b)
          have HD4 := Lib.hid hd4
          clear hd4
          go_wp2_with fail
          refine (remove_ok HO4.out (nm 0) HD4.out).mono ?_
          rintro e w5 ⟨rfl, hd5, ho5⟩
          rw [HST.out.2.1]
          have HO5 := Lib.hid (HO4.out.remove (nm 0))
          have HD5 := Lib.hid hd5
          clear hd5
          go_wp2_with fail
          refine (create_ok HO5.out (nm 0) (by rw [nm_size]; omega) HD5.out).mono ?_
          rintro e w6 ⟨rfl, hd6, ho6⟩
          rw [HST.out.2.2.1]
          have HO6 := Lib.hid (HO5.out.create (nm 0))
          have HD6 := Lib.hid hd6
          clear hd6
          go_wp2_with fail
          refine (append_ok HO6.out (nm 0) (b.extract 0 M) (by have := HBS.out; (try rw [ByteArray.size_extract]); omega) HD6.out).mono ?_
          rintro e w7 ⟨rfl, hd7, ho7⟩
          rw [HST.out.2.2.2]
          go_wp2_with fail
          refine (alive_any _).mono ?_
          rintro e w8 ⟨rfl, hb8⟩
          go_wp2
          go_ret
          have hO := ho.trans ((Only.of_below hbB).trans (ho4.trans (ho5.trans (ho6.trans ho7))))
          exact ⟨rfl, (hO.below hb1 hb1.size hd hm).trans (hb8.mono (Nat.le_trans hb1.size hO.size))⟩
  all_goals
    go_enter Try.func4, Try.ntmps4
    go_wp2_with fail
    refine (alive_any _).mono ?_
    rintro e w3 ⟨rfl, hb3⟩
    go_wp2
    go_ret
    exact ⟨rfl, hb3⟩

end Go.Proofs.Ytncpeaamfmfcgaa
