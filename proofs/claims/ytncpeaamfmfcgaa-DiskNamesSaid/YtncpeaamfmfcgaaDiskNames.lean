/- DiskNames: a file that is called otherwise has its bytes, under its new name alone. -/
import Derived.Test.YtncpeaamfmfcgaaDiskOne
namespace Go.Proofs.Ytncpeaamfmfcgaa
open Go.RowKit

/-- One file, whatever its stamp; two files. -/
def oneG (s data : ByteArray) (b n : Nat) : St := ⟨true, false, 0, n, [⟨s, data, 0, b⟩], b + 1⟩
def two (a x b y : ByteArray) (n : Nat) : St := ⟨true, false, 0, n, [⟨a, x, 0, 0⟩, ⟨b, y, 0, 1⟩], 2⟩

theorem oneG_ok {s data : ByteArray} {b n : Nat} (hs : s.size ≤ 40) (hd : data.size ≤ 400000) (hn : n ≤ 100) : (oneG s data b n).Ok := by
  refine ⟨⟨?_, ⟨?_, ?_⟩⟩, ?_, ⟨?_, ?_⟩, ?_, ?_, ?_, ?_⟩
  · show n ≤ _; omega
  · show (-9223372036854775808 : Int) ≤ 0; omega
  · show (0 : Int) ≤ 9223372036854775807; omega
  · exact List.pairwise_singleton _ _
  · intro f hf; obtain rfl := List.mem_singleton.1 hf; exact Nat.lt_succ_self b
  · show List.Nodup [b]; simp
  · intro f hf; obtain rfl := List.mem_singleton.1 hf; exact hs
  · show 1 ≤ 40; omega
  · show data.size + 0 ≤ 400000; omega
  · intro f hf; obtain rfl := List.mem_singleton.1 hf; exact Nat.zero_le _
theorem mem_two {α : Type} {p q x : α} (h : x ∈ [p, q]) : x = p ∨ x = q := by simpa using h
theorem two_ok {a x b y : ByteArray} {n : Nat} (hab : a ≠ b) (ha : a.size ≤ 40) (hb : b.size ≤ 40) (hx : x.size + y.size ≤ 400000) (hn : n ≤ 100) : (two a x b y n).Ok := by
  refine ⟨⟨?_, ⟨?_, ?_⟩⟩, ?_, ⟨?_, ?_⟩, ?_, ?_, ?_, ?_⟩
  · show n ≤ _; omega
  · show (-9223372036854775808 : Int) ≤ 0; omega
  · show (0 : Int) ≤ 9223372036854775807; omega
  · refine List.pairwise_cons.2 ⟨fun g hg => ?_, List.pairwise_singleton _ _⟩
    obtain rfl := List.mem_singleton.1 hg; exact hab
  · intro f hf
    rcases mem_two hf with rfl | rfl
    · show 0 < 2; omega
    · show 1 < 2; omega
  · show List.Nodup [0, 1]; simp
  · intro f hf
    rcases mem_two hf with rfl | rfl
    · exact ha
    · exact hb
  · show 2 ≤ 40; omega
  · show x.size + (y.size + 0) ≤ 400000; omega
  · intro f hf
    rcases mem_two hf with rfl | rfl <;> exact Nat.zero_le _

theorem two_create {a x b : ByteArray} (hab : a ≠ b) (hv : validB b = true) {n : Nat} (hn : n ≤ 100) : (one a x 0 n).create b = (0, two a x b ByteArray.empty (n + 1)) := by
  have h1 := op_plain (S := one a x 0 n) hn rfl
  have he : createErr (one a x 0 n) b = 0 := by
    unfold createErr; rw [hv, if_pos rfl, show has (one a x 0 n).files b = false by simp [has, one, hab]]; rfl
  refine (does_ok rfl h1.2 he).trans ?_
  rw [h1.1]; rfl
theorem two_append {a x b y : ByteArray} (hab : a ≠ b) {n : Nat} (hn : n ≤ 100) (hx : x.size + y.size ≤ 400000) : (two a x b ByteArray.empty n).append b y = (0, two a x b y (n + 1)) := by
  have h1 := op_plain (S := two a x b ByteArray.empty n) hn rfl
  have he : appErr (two a x b ByteArray.empty n) b y = 0 := by
    unfold appErr
    rw [show has (two a x b ByteArray.empty n).files b = true by simp [has, two], if_pos rfl, if_pos]
    show x.size + (0 + 0) + y.size ≤ 400000; omega
  unfold St.append
  rw [he, h1.2, h1.1]
  have hu : upd (two a x b ByteArray.empty n).files b (appFE y) = [⟨a, x, 0, 0⟩, ⟨b, y, 0, 1⟩] := by
    simp [upd, two, hab, appFE]
  show (0, ({ two a x b ByteArray.empty n with ops := n + 1, files := upd (two a x b ByteArray.empty n).files b (appFE y) } : St)) = _
  rw [hu]; rfl
theorem rename_ok {S : St} (hon : S.on = true) (hf : S.fused = false) (hn : S.ops ≤ 100) {a b : ByteArray} (ha : has S.files a = true) (hv : validB b = true) : S.rename a b = (0, ren { S with ops := S.ops + 1 } a b) := by
  have h1 := op_plain hn hf
  refine (does_ok hon h1.2 (by unfold renErr; rw [ha, hv]; rfl)).trans ?_
  rw [h1.1]
theorem one_rename {a x b : ByteArray} (hv : validB b = true) {n : Nat} (hn : n ≤ 100) : (one a x 0 n).rename a b = (0, oneG b x 1 (n + 1)) := by
  rw [rename_ok rfl rfl hn (has_one a x 0 n) hv]
  simp [ren, one, fileOf, moved, del, has, oneG]
theorem two_rename {a x b y : ByteArray} (hab : a ≠ b) (hv : validB b = true) {n : Nat} (hn : n ≤ 100) : (two a x b y n).rename a b = (0, oneG b x 1 (n + 1)) := by
  rw [rename_ok rfl rfl hn (by simp [has, two]) hv]
  have hba : b ≠ a := fun h => hab h.symm
  simp [ren, two, fileOf, moved, del, has, oneG, hba, upd]
theorem oneG_rename {b x : ByteArray} (hv : validB b = true) {c n : Nat} (hn : n ≤ 100) : (oneG b x c n).rename b b = (0, oneG b x (c + 1) (n + 1)) := by
  rw [rename_ok rfl rfl hn (by simp [has, oneG]) hv]
  simp [ren, oneG, fileOf, moved, del, has]
theorem oneG_none {a b x : ByteArray} (hab : a ≠ b) {c n : Nat} (hn : n ≤ 100) : (oneG b x c n).rename a b = (7, oneG b x c (n + 1)) := by
  have h1 := op_plain (S := oneG b x c n) hn rfl
  have hba : b ≠ a := fun h => hab h.symm
  have he : renErr (oneG b x c n) a b = 7 := by
    unfold renErr
    rw [show has (oneG b x c n).files a = false by simp [has, oneG, hba]]; rfl
  refine (does_err rfl h1.2 (by rw [he]; decide)).trans ?_
  rw [he, h1.1]; rfl

theorem first7 : ∀ g1 g2 g3 g4 g5 g6 g7 : Bool, g1 = true ∨ (g1 = false ∧ g2 = true) ∨ (g1 = false ∧ g2 = false ∧ g3 = true) ∨ (g1 = false ∧ g2 = false ∧ g3 = false ∧ g4 = true) ∨ (g1 = false ∧ g2 = false ∧ g3 = false ∧ g4 = false ∧ g5 = true) ∨ (g1 = false ∧ g2 = false ∧ g3 = false ∧ g4 = false ∧ g5 = false ∧ g6 = true) ∨ (g1 = false ∧ g2 = false ∧ g3 = false ∧ g4 = false ∧ g5 = false ∧ g6 = false ∧ g7 = true) ∨ (g1 = false ∧ g2 = false ∧ g3 = false ∧ g4 = false ∧ g5 = false ∧ g6 = false ∧ g7 = false) := by
  intro g1 g2 g3 g4 g5 g6 g7
  cases g1 <;> cases g2 <;> cases g3 <;> cases g4 <;> cases g5 <;> cases g6 <;> cases g7 <;> simp
theorem text_eq (a b : ByteArray) : (a.toList == b.toList) = decide (a = b) := by
  rw [Bool.eq_iff_iff, beq_iff_eq, decide_eq_true_iff, ByteArray.toList_eq, ByteArray.toList_eq]
  constructor
  · intro h; exact ByteArray.ext (Array.toList_inj.1 h)
  · intro h; rw [h]

theorem two_create_any {d m : Nat} {a x b : ByteArray} (hab : a ≠ b) (ha : a.size ≤ 40) (hv : validB b = true) (hx : x.size ≤ 3000) {n : Nat} (hn : n ≤ 100) (w : World) (h : IsDisk w d m (one a x 0 n)) :
    Calls Try.prog 11 #[.pointer (some ⟨d, 0, none⟩), .string b] w fun e w' => e = .returned (.int .i64 0) ∧ IsDisk w' d m (two a x b ByteArray.empty (n + 1)) ∧ Only d m w w' := by
  have hb : b.size ≤ 40 := by have := of_decide_eq_true hv; omega
  have k := create_any d m _ b w h (by omega) (one_ok ha (by omega) (Nat.zero_le _) hn).fits
  rw [two_create hab hv hn] at k
  exact k
theorem two_append_any {d m : Nat} {a x b y : ByteArray} (hab : a ≠ b) (ha : a.size ≤ 40) (hb : b.size ≤ 40) (hx : x.size ≤ 3000) (hy : y.size ≤ 3000) {n : Nat} (hn : n ≤ 100) (w : World) (h : IsDisk w d m (two a x b ByteArray.empty n)) :
    Calls Try.prog 12 #[.pointer (some ⟨d, 0, none⟩), .string b, .string y] w fun e w' => e = .returned (.int .i64 0) ∧ IsDisk w' d m (two a x b y (n + 1)) ∧ Only d m w w' := by
  have hO := two_ok (y := ByteArray.empty) hab ha hb (show x.size + 0 ≤ 400000 by omega) hn
  have k := append_any d m _ b y w h hO.fits hO.apart hO.stamps hO.room (by omega)
  rw [two_append hab hn (by omega)] at k
  exact k
theorem one_rename_any {d m : Nat} {a x b : ByteArray} (ha : a.size ≤ 40) (hv : validB b = true) (hx : x.size ≤ 3000) {n : Nat} (hn : n ≤ 100) (w : World) (h : IsDisk w d m (one a x 0 n)) :
    Calls Try.prog 25 #[.pointer (some ⟨d, 0, none⟩), .string a, .string b] w fun e w' => e = .returned (.int .i64 0) ∧ IsDisk w' d m (oneG b x 1 (n + 1)) ∧ Only d m w w' := by
  have hb : b.size ≤ 40 := by have := of_decide_eq_true hv; omega
  have hO := one_ok (sy := 0) ha (show x.size ≤ 400000 by omega) (Nat.zero_le _) hn
  have k := rename_any d m _ a b w h hO.fits hO.apart (by omega)
  rw [one_rename hv hn] at k
  exact k
theorem two_rename_any {d m : Nat} {a x b y : ByteArray} (hab : a ≠ b) (ha : a.size ≤ 40) (hv : validB b = true) (hx : x.size ≤ 3000) (hy : y.size ≤ 3000) {n : Nat} (hn : n ≤ 100) (w : World) (h : IsDisk w d m (two a x b y n)) :
    Calls Try.prog 25 #[.pointer (some ⟨d, 0, none⟩), .string a, .string b] w fun e w' => e = .returned (.int .i64 0) ∧ IsDisk w' d m (oneG b x 1 (n + 1)) ∧ Only d m w w' := by
  have hb : b.size ≤ 40 := by have := of_decide_eq_true hv; omega
  have hO := two_ok hab ha hb (show x.size + y.size ≤ 400000 by omega) hn
  have k := rename_any d m _ a b w h hO.fits hO.apart (by omega)
  rw [two_rename hab hv hn] at k
  exact k
theorem oneG_rename_any {d m : Nat} {b x : ByteArray} (hv : validB b = true) (hx : x.size ≤ 3000) {c n : Nat} (hn : n ≤ 100) (w : World) (h : IsDisk w d m (oneG b x c n)) :
    Calls Try.prog 25 #[.pointer (some ⟨d, 0, none⟩), .string b, .string b] w fun e w' => e = .returned (.int .i64 0) ∧ IsDisk w' d m (oneG b x (c + 1) (n + 1)) ∧ Only d m w w' := by
  have hb : b.size ≤ 40 := by have := of_decide_eq_true hv; omega
  have hO := oneG_ok (b := c) hb (show x.size ≤ 400000 by omega) hn
  have k := rename_any d m _ b b w h hO.fits hO.apart (by omega)
  rw [oneG_rename hv hn] at k
  exact k
theorem oneG_none_any {d m : Nat} {a b x : ByteArray} (hab : a ≠ b) (hb : b.size ≤ 40) (hx : x.size ≤ 3000) {c n : Nat} (hn : n ≤ 100) (w : World) (h : IsDisk w d m (oneG b x c n)) :
    Calls Try.prog 25 #[.pointer (some ⟨d, 0, none⟩), .string a, .string b] w fun e w' => e = .returned (.int .i64 7) ∧ IsDisk w' d m (oneG b x c (n + 1)) ∧ Only d m w w' := by
  have hO := oneG_ok (b := c) hb (show x.size ≤ 400000 by omega) hn
  have k := rename_any d m _ a b w h hO.fits hO.apart (by omega)
  rw [oneG_none hab hn] at k
  exact k
theorem oneG_read_any {d m : Nat} {b x : ByteArray} {c n : Nat} (w : World) (h : IsDisk w d m (oneG b x c n)) :
    Calls Try.prog 15 #[.pointer (some ⟨d, 0, none⟩), .string b] w fun e w' => e = .returned (.tuple #[.string x, .int .i64 0]) ∧ Below w.heap.size w w' := by
  have k := read_any d m _ b w h
  rw [show readData (oneG b x c n).files b = x by simp [readData, fileOf, oneG], lackErr_true (show has (oneG b x c n).files b = true by simp [has, oneG])] at k
  exact k
theorem oneG_unread_any {d m : Nat} {a b x : ByteArray} (hab : a ≠ b) {c n : Nat} (w : World) (h : IsDisk w d m (oneG b x c n)) :
    Calls Try.prog 15 #[.pointer (some ⟨d, 0, none⟩), .string a] w fun e w' => e = .returned (.tuple #[.string ByteArray.empty, .int .i64 7]) ∧ Below w.heap.size w w' := by
  have k := read_any d m _ a w h
  have hba : b ≠ a := fun q => hab q.symm
  have hh : has (oneG b x c n).files a = false := by simp [has, oneG, hba]
  rw [show readData (oneG b x c n).files a = ByteArray.empty by unfold readData; rw [fileOf_miss hh], lackErr_false hh] at k
  exact k
theorem oneG_files_any {d m : Nat} {b x : ByteArray} (hb : b.size ≤ 40) (hx : x.size ≤ 3000) {c n : Nat} (hn : n ≤ 100) (w : World) (h : IsDisk w d m (oneG b x c n)) :
    Calls Try.prog 21 #[.pointer (some ⟨d, 0, none⟩)] w fun e w' => ∃ k off cap, e = .returned (.slice (some ⟨k, off, none⟩) 1 cap) ∧ w'.cell? ⟨k, off, none⟩ = some (.string b) ∧ Below w.heap.size w w' := by
  have hO := oneG_ok (b := c) hb (show x.size ≤ 400000 by omega) hn
  refine (files_any d m _ w h hO.stamps hO.apart hO.names (by have := hO.few; omega)).mono fun e w' ⟨v, he, hv, hb⟩ => ?_
  rw [show namesOf (oneG b x c n).files = [b] from namesOf_single _] at hv
  rcases hv.cases with ⟨h0, -⟩ | ⟨k, off, cap, hv, -, -, hc⟩
  · cases h0
  · subst hv
    exact ⟨k, off, cap, he, hc 0 (by simp), hb⟩

set_option maxHeartbeats 4000000 in
set_option maxRecDepth 100000 in
theorem walk_names (w0 : World) (a : ByteArray) (ha : a.size ≤ maxLen) (b : ByteArray) (hb : b.size ≤ maxLen) (x : ByteArray) (hx : x.size ≤ maxLen) (y : ByteArray) (hy : y.size ≤ maxLen) (other : Bool) :
    Calls Try.prog 7 #[.string a, .string b, .string x, .string y, .bool other] w0 fun e w' => e = .returned (.bool true) ∧ Below w0.heap.size w0 w' := by
  unfold maxLen at ha hb hx hy
  have a9 : (a.size : Int) ≤ 9223372036854775807 := by omega
  have b9 : (b.size : Int) ≤ 9223372036854775807 := by omega
  have x9 : (x.size : Int) ≤ 9223372036854775807 := by omega
  have y9 : (y.size : Int) ≤ 9223372036854775807 := by omega
  rcases first7 (a.toList == b.toList) (decide ((a.size : Int) < 1)) (decide ((40 : Int) < a.size)) (decide ((b.size : Int) < 1)) (decide ((40 : Int) < b.size)) (decide ((3000 : Int) < x.size)) (decide ((3000 : Int) < y.size)) with t1 | ⟨t1, t2⟩ | ⟨t1, t2, t3⟩ | ⟨t1, t2, t3, t4⟩ | ⟨t1, t2, t3, t4, t5⟩ | ⟨t1, t2, t3, t4, t5, t6⟩ | ⟨t1, t2, t3, t4, t5, t6, t7⟩ | ⟨t1, t2, t3, t4, t5, t6, t7⟩
  rotate_left 7
  · have hab : a ≠ b := fun q => by rw [text_eq, decide_eq_true q] at t1; cases t1
    have s2 := of_decide_eq_false t2
    have s3 := of_decide_eq_false t3
    have s4 := of_decide_eq_false t4
    have s5 := of_decide_eq_false t5
    have s6 := of_decide_eq_false t6
    have s7 := of_decide_eq_false t7
    have ha40 : a.size ≤ 40 := by omega
    have hb40 : b.size ≤ 40 := by omega
    have hx3 : x.size ≤ 3000 := by omega
    have hy3 : y.size ≤ 3000 := by omega
    have hva : validB a = true := decide_eq_true ⟨by omega, by omega⟩
    have hvb : validB b = true := decide_eq_true ⟨by omega, by omega⟩
    have HAB := Lib.hid hab
    clear s2 s3 s4 s5 s6 s7 hab
    cases other
    all_goals
      go_enter Try.func7, Try.ntmps7
      go_wp2_with fail
      refine (new_ex _).mono ?_
      rintro e w1 ⟨d, m, hd, hm, rfl, hd1, hb1⟩
      have HD1 := Lib.hid hd1
      clear hd1
      go_wp2_with (first
        | (go_at_call 11; refine (two_create_any HAB.out ha40 hvb hx3 (by decide) _ HD3.out).mono ?_; rintro e w4 ⟨rfl, hd4, ho4⟩; have HD4 := Lib.hid hd4; clear hd4)
        | (go_at_call 12; refine (two_append_any HAB.out ha40 hb40 hx3 hy3 (by decide) _ HD4.out).mono ?_; rintro e w5 ⟨rfl, hd5, ho5⟩; have HD5 := Lib.hid hd5; clear hd5)
        | (go_at_call 11; refine (one_create_any hva _ HD1.out).mono ?_; rintro e w2 ⟨rfl, hd2, ho2⟩; have HD2 := Lib.hid hd2; clear hd2)
        | (go_at_call 12; refine (one_append_any ha40 (by decide) (by rw [ByteArray.size_empty]; omega) (by decide) _ HD2.out).mono ?_; rintro e w3 ⟨rfl, hd3, ho3⟩; rw [ByteArray.empty_append] at hd3; have HD3 := Lib.hid hd3; clear hd3)
        | (go_at_call 25; refine (two_rename_any HAB.out ha40 hvb hx3 hy3 (by decide) _ HD5.out).mono ?_; rintro e w6 ⟨rfl, hd6, ho6⟩; have HD6 := Lib.hid hd6; have HO6 := Lib.hid (ho2.trans (ho3.trans (ho4.trans (ho5.trans ho6)))); clear hd6)
        | (go_at_call 25; refine (one_rename_any ha40 hvb hx3 (by decide) _ HD3.out).mono ?_; rintro e w6 ⟨rfl, hd6, ho6⟩; have HD6 := Lib.hid hd6; have HO6 := Lib.hid (ho2.trans (ho3.trans ho6)); clear hd6))
      refine (oneG_read_any _ HD6.out).mono ?_
      rintro e w7 ⟨rfl, hb7⟩
      have HD7 := Lib.hid (HD6.out.later hb7)
      go_wp2_with fail
      refine (oneG_unread_any HAB.out _ HD7.out).mono ?_
      rintro e w8 ⟨rfl, hb8⟩
      have HD8 := Lib.hid (HD7.out.later hb8)
      go_wp2_with fail
      refine (oneG_files_any hb40 hx3 (by decide) _ HD8.out).mono ?_
      rintro e w9 ⟨k, off, cap, rfl, hc9, hb9⟩
      have HD9 := Lib.hid (HD8.out.later hb9)
      go_wp2_with fail
      refine (alive_any _).mono ?_
      rintro e w10 ⟨rfl, hb10⟩
      have HD10 := Lib.hid (HD9.out.later hb10)
      have hc10 := cell_later hc9 hb10
      go_wp2_with (first
        | (go_at_call 25; refine (oneG_none_any HAB.out hb40 hx3 (by decide) _ HD11.out).mono ?_; rintro e w12 ⟨rfl, hd12, ho12⟩)
        | (go_at_call 25; refine (oneG_rename_any hvb hx3 (by decide) _ HD10.out).mono ?_; rintro e w11 ⟨rfl, hd11, ho11⟩; have HD11 := Lib.hid hd11; clear hd11))
      go_ret
      have hO := HO6.out.trans ((Only.of_below (below_step (below_step (below_step hb7 hb8) hb9) hb10)).trans (ho11.trans ho12))
      exact ⟨rfl, hO.below hb1 hb1.size hd hm⟩
  all_goals
    go_enter Try.func7, Try.ntmps7
    go_wp2_with fail
    refine (alive_any _).mono ?_
    rintro e w3 ⟨rfl, hb3⟩
    go_wp2
    go_ret
    exact ⟨rfl, hb3⟩

end Go.Proofs.Ytncpeaamfmfcgaa
