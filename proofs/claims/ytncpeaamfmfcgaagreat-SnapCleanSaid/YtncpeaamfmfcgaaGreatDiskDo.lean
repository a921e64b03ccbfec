/- The operations of a disk that go through 'do': Sync, Remove, Rename. (Printed by mkop.py.) -/
import Derived.Test.YtncpeaamfmfcgaaGreatDiskOps2
namespace Go.Proofs.YtncpeaamfmfcgaaGreat
open Go.RowKit

theorem lackErr_zero {l : List FE} {s : ByteArray} (h : lackErr l s = 0) : has l s = true := by
  cases hh : has l s
  · rw [lackErr_false hh] at h; cases h
  · rfl
theorem renErr_zero {S : St} {s t : ByteArray} (h : renErr S s t = 0) : has S.files s = true := by
  cases hh : has S.files s
  · unfold renErr at h; rw [hh] at h; cases h
  · rfl
theorem Vars.made3 {w : World} {d m : Nat} {S : St} (h : IsDisk w d m S) (s t : ByteArray) (t1 t2 t3 : TypeId) :
    Vars (((w.alloc (.cells #[.pointer (some ⟨d, 0, none⟩)] t1)).alloc (.cells #[.string s] t2)).alloc (.cells #[.string t] t3)) d m w.heap.size (w.heap.size + 1) s ∧
    Vars (((w.alloc (.cells #[.pointer (some ⟨d, 0, none⟩)] t1)).alloc (.cells #[.string s] t2)).alloc (.cells #[.string t] t3)) d m w.heap.size (w.heap.size + 1 + 1) t := by
  have h1 := h.lt.1
  have h2 := h.lt.2
  have hv := Vars.made h s t1 t2
  refine ⟨hv.later ((Below.refl _ _).alloc (Nat.le_refl _) _), (hv.later ((Below.refl _ _).alloc (Nat.le_refl _) _)).disk, ?_, by omega, by omega, by omega, by omega⟩
  rw [World.cell?_alloc_at _ _ _ _ (by simp)]; rfl

def St.sync (S : St) (s : ByteArray) : Int × St := S.does (lackErr S.files s) fun T => { T with files := upd T.files s syncFE }
set_option maxHeartbeats 2000000 in
theorem sync_any (d m : Nat) (S : St) (s : ByteArray) (w : World) (h : IsDisk w d m S) (hF : S.Fits) (ha : Apart S.files) :
    Calls Tryz.prog 47 #[.pointer (some ⟨d, 0, none⟩), .string s] w fun e w' => e = .returned (.int .i64 (S.sync s).1) ∧ IsDisk w' d m (S.sync s).2 ∧ Only d m w w' := by
  have HB := Lib.hid (show ∀ a b, Below w.heap.size w ((w.alloc a).alloc b) from fun a b => below_alloc (below_alloc (Below.refl _ w) a) b)
  have HD := Lib.hid h
  have HVS := Lib.hid (fun t1 t2 => Vars.made h s t1 t2)
  have HAP := Lib.hid ha
  have HON := Lib.hid (show S.on = true ∨ S.on = false by cases S.on <;> simp)
  have HX := Lib.hid (fun W hD => op_any d m S W hD hF.ops hF.left)
  clear h hF ha
  rcases HON.out with hon | hon
  case inr =>
    have HE := Lib.hid (show S.sync s = (14, S) from does_off hon)
    have HON' := Lib.hid hon
    rw [HE.out]
    clear hon HE
    go_enter Tryz.func47, Tryz.ntmps47
    go_wp2_with (first | (go_at_call 64; go_in))
    refine (off_any d m S _ (HD.out.later (HB.out _ _))).mono ?_
    rintro e w1 ⟨rfl, rfl⟩
    rw [HON'.out]
    go_wp2
    go_ret
    exact ⟨rfl, HD.out.later (HB.out _ _), Only.of_below (HB.out _ _)⟩
  case inl =>
    have HON' := Lib.hid hon
    clear hon
    cases hfl : S.fails
    · have HFL := Lib.hid hfl
      by_cases he : lackErr S.files s = 0
      · have HE := Lib.hid (show S.sync s = (0, _) from does_ok HON'.out hfl he)
        have HER := Lib.hid he
        rw [HE.out]
        clear he hfl HE
        go_enter Tryz.func47, Tryz.ntmps47
        go_wp2_with (first | (go_at_call 64; go_in))
        refine (off_any d m S _ (HD.out.later (HB.out _ _))).mono ?_
        rintro e w1 ⟨rfl, rfl⟩
        rw [HON'.out]
        go_wp2_with fail
        refine (HX.out _ (HD.out.later (HB.out _ _))).mono ?_
        rintro e w1 ⟨rfl, hd1, ho1⟩
        rw [HFL.out]
        have hv1 := (HVS.out 25 9).only ho1
        go_wp2_with fail
        refine (sync1_any d m _ _ S.op s w1 hd1 hv1).mono ?_
        rintro e w2 ⟨rfl, hb2⟩
        rw [show lackErr S.op.files s = 0 from HER.out]
        have hv2 := hv1.later hb2
        go_wp2_with fail
        refine (sync2_any d m _ _ S.op s w2 (hd1.later hb2) hv2 (lackErr_zero HER.out) HAP.out).mono ?_
        rintro e w3 ⟨rfl, hd3, ho3⟩
        go_wp2
        go_ret
        exact ⟨rfl, hd3, ((Only.of_below (HB.out _ _)).trans ho1).trans ((Only.of_below hb2).trans ho3)⟩
      · have HE := Lib.hid (show S.sync s = (lackErr S.files s, S.op) from does_err HON'.out hfl he)
        have HER := Lib.hid (show (lackErr S.files s == 0) = false from beq_eq_false_iff_ne.2 he)
        rw [HE.out]
        clear he hfl HE
        go_enter Tryz.func47, Tryz.ntmps47
        go_wp2_with (first | (go_at_call 64; go_in))
        refine (off_any d m S _ (HD.out.later (HB.out _ _))).mono ?_
        rintro e w1 ⟨rfl, rfl⟩
        rw [HON'.out]
        go_wp2_with fail
        refine (HX.out _ (HD.out.later (HB.out _ _))).mono ?_
        rintro e w1 ⟨rfl, hd1, ho1⟩
        rw [HFL.out]
        have hv1 := (HVS.out 25 9).only ho1
        go_wp2_with fail
        refine (sync1_any d m _ _ S.op s w1 hd1 hv1).mono ?_
        rintro e w2 ⟨rfl, hb2⟩
        rw [show lackErr S.op.files s = lackErr S.files s from rfl]
        have her := HER.out
        go_wp2
        go_ret
        exact ⟨rfl, hd1.later hb2, ((Only.of_below (HB.out _ _)).trans ho1).trans (Only.of_below hb2)⟩
    · have HFL := Lib.hid hfl
      have HE := Lib.hid (show S.sync s = (14, S.op) from does_fails HON'.out hfl)
      rw [HE.out]
      clear hfl HE
      go_enter Tryz.func47, Tryz.ntmps47
      go_wp2_with (first | (go_at_call 64; go_in))
      refine (off_any d m S _ (HD.out.later (HB.out _ _))).mono ?_
      rintro e w1 ⟨rfl, rfl⟩
      rw [HON'.out]
      go_wp2_with fail
      refine (HX.out _ (HD.out.later (HB.out _ _))).mono ?_
      rintro e w1 ⟨rfl, hd1, ho1⟩
      rw [HFL.out]
      go_wp2
      go_ret
      exact ⟨rfl, hd1, (Only.of_below (HB.out _ _)).trans ho1⟩

def St.remove (S : St) (s : ByteArray) : Int × St := S.does (lackErr S.files s) fun T => { T with files := del T.files s }
set_option maxHeartbeats 2000000 in
theorem remove_any (d m : Nat) (S : St) (s : ByteArray) (w : World) (h : IsDisk w d m S) (hF : S.Fits) (ha : Apart S.files) :
    Calls Tryz.prog 92 #[.pointer (some ⟨d, 0, none⟩), .string s] w fun e w' => e = .returned (.int .i64 (S.remove s).1) ∧ IsDisk w' d m (S.remove s).2 ∧ Only d m w w' := by
  have HB := Lib.hid (show ∀ a b, Below w.heap.size w ((w.alloc a).alloc b) from fun a b => below_alloc (below_alloc (Below.refl _ w) a) b)
  have HD := Lib.hid h
  have HVS := Lib.hid (fun t1 t2 => Vars.made h s t1 t2)
  have HAP := Lib.hid ha
  have HON := Lib.hid (show S.on = true ∨ S.on = false by cases S.on <;> simp)
  have HX := Lib.hid (fun W hD => op_any d m S W hD hF.ops hF.left)
  clear h hF ha
  rcases HON.out with hon | hon
  case inr =>
    have HE := Lib.hid (show S.remove s = (14, S) from does_off hon)
    have HON' := Lib.hid hon
    rw [HE.out]
    clear hon HE
    go_enter Tryz.func92, Tryz.ntmps92
    go_wp2_with (first | (go_at_call 64; go_in))
    refine (off_any d m S _ (HD.out.later (HB.out _ _))).mono ?_
    rintro e w1 ⟨rfl, rfl⟩
    rw [HON'.out]
    go_wp2
    go_ret
    exact ⟨rfl, HD.out.later (HB.out _ _), Only.of_below (HB.out _ _)⟩
  case inl =>
    have HON' := Lib.hid hon
    clear hon
    cases hfl : S.fails
    · have HFL := Lib.hid hfl
      by_cases he : lackErr S.files s = 0
      · have HE := Lib.hid (show S.remove s = (0, _) from does_ok HON'.out hfl he)
        have HER := Lib.hid he
        rw [HE.out]
        clear he hfl HE
        go_enter Tryz.func92, Tryz.ntmps92
        go_wp2_with (first | (go_at_call 64; go_in))
        refine (off_any d m S _ (HD.out.later (HB.out _ _))).mono ?_
        rintro e w1 ⟨rfl, rfl⟩
        rw [HON'.out]
        go_wp2_with fail
        refine (HX.out _ (HD.out.later (HB.out _ _))).mono ?_
        rintro e w1 ⟨rfl, hd1, ho1⟩
        rw [HFL.out]
        have hv1 := (HVS.out 25 9).only ho1
        go_wp2_with fail
        refine (remove1_any d m _ _ S.op s w1 hd1 hv1).mono ?_
        rintro e w2 ⟨rfl, hb2⟩
        rw [show lackErr S.op.files s = 0 from HER.out]
        have hv2 := hv1.later hb2
        go_wp2_with fail
        refine (remove2_any d m _ _ S.op s w2 (hd1.later hb2) hv2 (lackErr_zero HER.out) HAP.out).mono ?_
        rintro e w3 ⟨rfl, hd3, ho3⟩
        go_wp2
        go_ret
        exact ⟨rfl, hd3, ((Only.of_below (HB.out _ _)).trans ho1).trans ((Only.of_below hb2).trans ho3)⟩
      · have HE := Lib.hid (show S.remove s = (lackErr S.files s, S.op) from does_err HON'.out hfl he)
        have HER := Lib.hid (show (lackErr S.files s == 0) = false from beq_eq_false_iff_ne.2 he)
        rw [HE.out]
        clear he hfl HE
        go_enter Tryz.func92, Tryz.ntmps92
        go_wp2_with (first | (go_at_call 64; go_in))
        refine (off_any d m S _ (HD.out.later (HB.out _ _))).mono ?_
        rintro e w1 ⟨rfl, rfl⟩
        rw [HON'.out]
        go_wp2_with fail
        refine (HX.out _ (HD.out.later (HB.out _ _))).mono ?_
        rintro e w1 ⟨rfl, hd1, ho1⟩
        rw [HFL.out]
        have hv1 := (HVS.out 25 9).only ho1
        go_wp2_with fail
        refine (remove1_any d m _ _ S.op s w1 hd1 hv1).mono ?_
        rintro e w2 ⟨rfl, hb2⟩
        rw [show lackErr S.op.files s = lackErr S.files s from rfl]
        have her := HER.out
        go_wp2
        go_ret
        exact ⟨rfl, hd1.later hb2, ((Only.of_below (HB.out _ _)).trans ho1).trans (Only.of_below hb2)⟩
    · have HFL := Lib.hid hfl
      have HE := Lib.hid (show S.remove s = (14, S.op) from does_fails HON'.out hfl)
      rw [HE.out]
      clear hfl HE
      go_enter Tryz.func92, Tryz.ntmps92
      go_wp2_with (first | (go_at_call 64; go_in))
      refine (off_any d m S _ (HD.out.later (HB.out _ _))).mono ?_
      rintro e w1 ⟨rfl, rfl⟩
      rw [HON'.out]
      go_wp2_with fail
      refine (HX.out _ (HD.out.later (HB.out _ _))).mono ?_
      rintro e w1 ⟨rfl, hd1, ho1⟩
      rw [HFL.out]
      go_wp2
      go_ret
      exact ⟨rfl, hd1, (Only.of_below (HB.out _ _)).trans ho1⟩

def St.rename (S : St) (s t : ByteArray) : Int × St := S.does (renErr S s t) fun T => ren T s t
set_option maxHeartbeats 2000000 in
theorem rename_any (d m : Nat) (S : St) (s t : ByteArray) (w : World) (h : IsDisk w d m S) (hF : S.Fits) (ha : Apart S.files) (hs : t.size ≤ 281474976710656) :
    Calls Tryz.prog 77 #[.pointer (some ⟨d, 0, none⟩), .string s, .string t] w fun e w' => e = .returned (.int .i64 (S.rename s t).1) ∧ IsDisk w' d m (S.rename s t).2 ∧ Only d m w w' := by
  have HB := Lib.hid (show ∀ a b c, Below w.heap.size w (((w.alloc a).alloc b).alloc c) from fun a b c => below_alloc (below_alloc (below_alloc (Below.refl _ w) a) b) c)
  have HD := Lib.hid h
  have HVS := Lib.hid (fun t1 t2 t3 => Vars.made3 h s t t1 t2 t3)
  have HAP := Lib.hid ha
  have HT := Lib.hid hs
  have HON := Lib.hid (show S.on = true ∨ S.on = false by cases S.on <;> simp)
  have HX := Lib.hid (fun W hD => op_any d m S W hD hF.ops hF.left)
  clear h hF ha hs
  rcases HON.out with hon | hon
  case inr =>
    have HE := Lib.hid (show S.rename s t = (14, S) from does_off hon)
    have HON' := Lib.hid hon
    rw [HE.out]
    clear hon HE
    go_enter Tryz.func77, Tryz.ntmps77
    go_wp2_with (first | (go_at_call 64; go_in))
    refine (off_any d m S _ (HD.out.later (HB.out _ _ _))).mono ?_
    rintro e w1 ⟨rfl, rfl⟩
    rw [HON'.out]
    go_wp2
    go_ret
    exact ⟨rfl, HD.out.later (HB.out _ _ _), Only.of_below (HB.out _ _ _)⟩
  case inl =>
    have HON' := Lib.hid hon
    clear hon
    cases hfl : S.fails
    · have HFL := Lib.hid hfl
      by_cases he : renErr S s t = 0
      · have HE := Lib.hid (show S.rename s t = (0, _) from does_ok HON'.out hfl he)
        have HER := Lib.hid he
        rw [HE.out]
        clear he hfl HE
        go_enter Tryz.func77, Tryz.ntmps77
        go_wp2_with (first | (go_at_call 64; go_in))
        refine (off_any d m S _ (HD.out.later (HB.out _ _ _))).mono ?_
        rintro e w1 ⟨rfl, rfl⟩
        rw [HON'.out]
        go_wp2_with fail
        refine (HX.out _ (HD.out.later (HB.out _ _ _))).mono ?_
        rintro e w1 ⟨rfl, hd1, ho1⟩
        rw [HFL.out]
        have hv1 : Vars w1 d m _ _ s ∧ Vars w1 d m _ _ t := ⟨((HVS.out 25 9 9).1).only ho1, ((HVS.out 25 9 9).2).only ho1⟩
        go_wp2_with fail
        refine (rename1_any d m _ _ _ S.op s t w1 hd1 hv1.1 hv1.2 (by have := HT.out; omega)).mono ?_
        rintro e w2 ⟨rfl, hb2⟩
        rw [show renErr S.op s t = 0 from HER.out]
        have hv2 : Vars w2 d m _ _ s ∧ Vars w2 d m _ _ t := ⟨hv1.1.later hb2, hv1.2.later hb2⟩
        go_wp2_with fail
        refine (rename2_any d m _ _ _ S.op s t w2 (hd1.later hb2) hv2.1 hv2.2 HT.out (renErr_zero HER.out) HAP.out).mono ?_
        rintro e w3 ⟨rfl, hd3, ho3⟩
        go_wp2
        go_ret
        exact ⟨rfl, hd3, ((Only.of_below (HB.out _ _ _)).trans ho1).trans ((Only.of_below hb2).trans ho3)⟩
      · have HE := Lib.hid (show S.rename s t = (renErr S s t, S.op) from does_err HON'.out hfl he)
        have HER := Lib.hid (show (renErr S s t == 0) = false from beq_eq_false_iff_ne.2 he)
        rw [HE.out]
        clear he hfl HE
        go_enter Tryz.func77, Tryz.ntmps77
        go_wp2_with (first | (go_at_call 64; go_in))
        refine (off_any d m S _ (HD.out.later (HB.out _ _ _))).mono ?_
        rintro e w1 ⟨rfl, rfl⟩
        rw [HON'.out]
        go_wp2_with fail
        refine (HX.out _ (HD.out.later (HB.out _ _ _))).mono ?_
        rintro e w1 ⟨rfl, hd1, ho1⟩
        rw [HFL.out]
        have hv1 : Vars w1 d m _ _ s ∧ Vars w1 d m _ _ t := ⟨((HVS.out 25 9 9).1).only ho1, ((HVS.out 25 9 9).2).only ho1⟩
        go_wp2_with fail
        refine (rename1_any d m _ _ _ S.op s t w1 hd1 hv1.1 hv1.2 (by have := HT.out; omega)).mono ?_
        rintro e w2 ⟨rfl, hb2⟩
        rw [show renErr S.op s t = renErr S s t from rfl]
        have her := HER.out
        go_wp2
        go_ret
        exact ⟨rfl, hd1.later hb2, ((Only.of_below (HB.out _ _ _)).trans ho1).trans (Only.of_below hb2)⟩
    · have HFL := Lib.hid hfl
      have HE := Lib.hid (show S.rename s t = (14, S.op) from does_fails HON'.out hfl)
      rw [HE.out]
      clear hfl HE
      go_enter Tryz.func77, Tryz.ntmps77
      go_wp2_with (first | (go_at_call 64; go_in))
      refine (off_any d m S _ (HD.out.later (HB.out _ _ _))).mono ?_
      rintro e w1 ⟨rfl, rfl⟩
      rw [HON'.out]
      go_wp2_with fail
      refine (HX.out _ (HD.out.later (HB.out _ _ _))).mono ?_
      rintro e w1 ⟨rfl, hd1, ho1⟩
      rw [HFL.out]
      go_wp2
      go_ret
      exact ⟨rfl, hd1, (Only.of_below (HB.out _ _ _)).trans ho1⟩

end Go.Proofs.YtncpeaamfmfcgaaGreat
