/- Append: what it does to a disk. (Printed by mkapp.py.) -/
import Derived.Test.YtncpeaamfmfcgaaGreatDiskSize
namespace Go.Proofs.YtncpeaamfmfcgaaGreat
open Go.RowKit

/-- What Append says of the files. -/
def appErr (S : St) (s x : ByteArray) : Int := if has S.files s then (if sizeAll S.files + x.size ≤ 400000 then 0 else 10) else 7
def appFE (x : ByteArray) (f : FE) : FE := { f with data := f.data ++ x }
/-- Append writes its bytes, even where the power fails at it. -/
def St.append (S : St) (s x : ByteArray) : Int × St :=
  if S.on then (if S.fails then 14 else appErr S s x, if appErr S s x = 0 then { S.op with files := upd S.files s (appFE x) } else S.op) else (14, S)
theorem append_off {S : St} {s x : ByteArray} (h : S.on = false) : S.append s x = (14, S) := by unfold St.append; rw [if_neg (by simp [h])]

theorem sizeAll_mem {l : List FE} {f : FE} (h : f ∈ l) : f.data.size ≤ sizeAll l := by
  induction l with
  | nil => cases h
  | cons g l ih =>
    rcases List.mem_cons.1 h with rfl | h
    · simp only [sizeAll]; omega
    · have := ih h; simp only [sizeAll]; omega

set_option maxHeartbeats 4000000 in
theorem append_any (d m : Nat) (S : St) (s x : ByteArray) (w : World) (h : IsDisk w d m S) (hF : S.Fits) (ha : Apart S.files) (hs : Stamps S.files S.clock) (ht : sizeAll S.files ≤ 400000) (hx : x.size ≤ 4611686018427387904) :
    Calls Tryz.prog 19 #[.pointer (some ⟨d, 0, none⟩), .string s, .string x] w fun e w' => e = .returned (.int .i64 (S.append s x).1) ∧ IsDisk w' d m (S.append s x).2 ∧ Only d m w w' := by
  have HD := Lib.hid h
  have HS := Lib.hid hs
  have HT := Lib.hid ht
  have hx' : (x.size : Int) ≤ 4611686018427387904 := by omega
  have ht' : (sizeAll S.files : Int) ≤ 400000 := by omega
  have HON := Lib.hid (show S.on = true ∨ S.on = false by cases S.on <;> simp)
  have HX := Lib.hid (fun W hD => op_any d m S W hD hF.ops hF.left)
  clear h hF hs
  rcases HON.out with hon | hon
  case inr =>
    have HE := Lib.hid (show S.append s x = (14, S) from append_off hon)
    have HON' := Lib.hid hon
    rw [HE.out]
    clear hon HE
    go_enter Tryz.func19, Tryz.ntmps19
    go_wp2_with fail
    refine (off_any d m S _ HD.out).mono ?_
    rintro e w1 ⟨rfl, rfl⟩
    rw [HON'.out]
    go_wp2
    go_ret
    exact ⟨rfl, HD.out, Only.refl _ _ _⟩
  case inl =>
    have HON' := Lib.hid hon
    cases hh : has S.files s
    · have HL := Lib.hid (lackErr_false hh)
      cases hfl : S.fails
      · have HE := Lib.hid (show S.append s x = (7, S.op) by unfold St.append appErr; simp [*])
        have HFL := Lib.hid hfl
        rw [HE.out]
        clear hfl HE hh
        go_enter Tryz.func19, Tryz.ntmps19
        go_wp2_with fail
        refine (off_any d m S _ HD.out).mono ?_
        rintro e w1 ⟨rfl, rfl⟩
        rw [HON'.out]
        go_wp2_with fail
        refine (HX.out _ HD.out).mono ?_
        rintro e w1 ⟨rfl, hd1, ho1⟩
        rw [HFL.out]
        have HD1 := Lib.hid hd1
        clear hd1
        go_wp2_with fail
        refine (lacks_any d m S.op s _ HD1.out).mono ?_
        rintro e w2 ⟨rfl, hb2⟩
        rw [show lackErr S.op.files s = _ from HL.out]
        have HD2 := Lib.hid (HD1.out.later hb2)
        go_wp2
        go_ret
        exact ⟨rfl, HD2.out, ho1.trans (Only.of_below hb2)⟩
      · have HE := Lib.hid (show S.append s x = (14, S.op) by unfold St.append appErr; simp [*])
        have HFL := Lib.hid hfl
        rw [HE.out]
        clear hfl HE hh
        go_enter Tryz.func19, Tryz.ntmps19
        go_wp2_with fail
        refine (off_any d m S _ HD.out).mono ?_
        rintro e w1 ⟨rfl, rfl⟩
        rw [HON'.out]
        go_wp2_with fail
        refine (HX.out _ HD.out).mono ?_
        rintro e w1 ⟨rfl, hd1, ho1⟩
        rw [HFL.out]
        have HD1 := Lib.hid hd1
        clear hd1
        go_wp2_with fail
        refine (lacks_any d m S.op s _ HD1.out).mono ?_
        rintro e w2 ⟨rfl, hb2⟩
        rw [show lackErr S.op.files s = _ from HL.out]
        have HD2 := Lib.hid (HD1.out.later hb2)
        go_wp2
        go_ret
        exact ⟨rfl, HD2.out, ho1.trans (Only.of_below hb2)⟩
    · have HL := Lib.hid (lackErr_true hh)
      by_cases hroom : sizeAll S.files + x.size ≤ 400000
      · obtain ⟨fp, f, fq, he, hf, hfp⟩ := has_true hh
        have hr1 : ∀ W : World, W.heap[m]? = some (mapOf S.files S.clock) → (Instr.lookup 45 (.map (some m)) (.string s) false).run Tryz.prog W = .ok (.agg #[.string f.data, .int .i64 (f.synced : Int)]) W := fun W hb => by
          rw [he] at hb
          exact run_look_hit1 (P := Tryz.prog) (w := W) (m := m) (clock := S.clock) Tryz.underlying45 Tryz.underlying9 fp fq f hb s hf hfp
        have hfle : f.data.size ≤ sizeAll S.files := sizeAll_mem (by rw [he]; simp)
        have hst : ∀ W : World, W.heap[m]? = some (mapOf S.files S.clock) → (Instr.mapUpdate 45 (.map (some m)) (.string s) (.agg #[.string (f.data ++ x), .int .i64 (f.synced : Int)])).run Tryz.prog W = .ok () (World.put W m (mapOf (upd S.files s (appFE x)) S.clock)) := fun W hb => by
          subst hf
          rw [he] at hb ha ⊢
          rw [upd_hit (appFE x) rfl ha.mid.1 ha.mid.2]
          exact run_store_hit (P := Tryz.prog) (w := W) (m := m) (clock := S.clock) Tryz.underlying45 Tryz.underlying9 fp fq f hb hfp (f.data ++ x) f.synced
        have hroom' : decide ((400000 : Int) - (sizeAll S.files : Int) < (x.size : Int)) = false := decide_eq_false (by omega)
        have hcat : f.data.size + x.size ≤ 400000 := by omega
        clear he hf hfp ha
        cases hfl : S.fails
        · have HE := Lib.hid (show S.append s x = (0, { S.op with files := upd S.files s (appFE x) }) by unfold St.append appErr; simp [*])
          have HFL := Lib.hid hfl
          rw [HE.out]
          clear hfl HE hh
          go_enter Tryz.func19, Tryz.ntmps19
          go_wp2_with fail
          refine (off_any d m S _ HD.out).mono ?_
          rintro e w1 ⟨rfl, rfl⟩
          rw [HON'.out]
          go_wp2_with fail
          refine (HX.out _ HD.out).mono ?_
          rintro e w1 ⟨rfl, hd1, ho1⟩
          rw [HFL.out]
          have HD1 := Lib.hid hd1
          clear hd1
          go_wp2_with fail
          refine (lacks_any d m S.op s _ HD1.out).mono ?_
          rintro e w2 ⟨rfl, hb2⟩
          rw [show lackErr S.op.files s = _ from HL.out]
          have HD2 := Lib.hid (HD1.out.later hb2)
          have c4 := HD2.out.facts.2.2.2.2.1
          go_wp2_with (first | (go_at_call 53; refine (size_any d m S.op _ HD2.out HS.out (by have := HT.out; show sizeAll S.files ≤ _; omega)).mono ?_; rintro e w3 ⟨rfl, hb3⟩; rw [show sizeAll S.op.files = sizeAll S.files from rfl]; have HD3 := Lib.hid (HD2.out.later hb3); have c43 := HD3.out.facts.2.2.2.2.1; have hr := hr1 _ HD3.out.map))
          obtain ⟨lK, lM, lP⟩ := closure_cells2 (u := .string (f.data ++ x)) (v := .int .i64 (f.synced : Int)) (t := 81) HD3.out c43 c43
          have LK := Lib.hid lK
          have LM := Lib.hid lM
          have LP := Lib.hid lP
          clear lK lM lP
          have hmB := LM.out _ (below_of_drew _)
          change _ = some (mapOf S.files S.clock) at hmB
          go_region_held3 (fun w' => w'.cell? ⟨d, 4, none⟩ = some (.map (some m)) ∧ w'.cell? ⟨w3.heap.size, 0, none⟩ = some (.string (f.data ++ x)) ∧ w'.cell? ⟨w3.heap.size, 1, none⟩ = some (.int .i64 (f.synced : Int))) (first | exact (LK.out _ (below_of_drew _)).2.2 | exact (LP.out _ _ (below_of_drew _)).2.2) (fail)
          go_wp2
          go_ret
          refine ⟨rfl, (HD3.out.later (below_alloc (Below.refl _ _) _).drew).setFiles _ _, (ho1.trans (Only.of_below ((below_alloc (below_step hb2 hb3) _).drew))).put _⟩
        · have HE := Lib.hid (show S.append s x = (14, { S.op with files := upd S.files s (appFE x) }) by unfold St.append appErr; simp [*])
          have HFL := Lib.hid hfl
          rw [HE.out]
          clear hfl HE hh
          go_enter Tryz.func19, Tryz.ntmps19
          go_wp2_with fail
          refine (off_any d m S _ HD.out).mono ?_
          rintro e w1 ⟨rfl, rfl⟩
          rw [HON'.out]
          go_wp2_with fail
          refine (HX.out _ HD.out).mono ?_
          rintro e w1 ⟨rfl, hd1, ho1⟩
          rw [HFL.out]
          have HD1 := Lib.hid hd1
          clear hd1
          go_wp2_with fail
          refine (lacks_any d m S.op s _ HD1.out).mono ?_
          rintro e w2 ⟨rfl, hb2⟩
          rw [show lackErr S.op.files s = _ from HL.out]
          have HD2 := Lib.hid (HD1.out.later hb2)
          have c4 := HD2.out.facts.2.2.2.2.1
          go_wp2_with (first | (go_at_call 53; refine (size_any d m S.op _ HD2.out HS.out (by have := HT.out; show sizeAll S.files ≤ _; omega)).mono ?_; rintro e w3 ⟨rfl, hb3⟩; rw [show sizeAll S.op.files = sizeAll S.files from rfl]; have HD3 := Lib.hid (HD2.out.later hb3); have c43 := HD3.out.facts.2.2.2.2.1; have hr := hr1 _ HD3.out.map))
          obtain ⟨lK, lM, lP⟩ := closure_cells2 (u := .string (f.data ++ x)) (v := .int .i64 (f.synced : Int)) (t := 81) HD3.out c43 c43
          have LK := Lib.hid lK
          have LM := Lib.hid lM
          have LP := Lib.hid lP
          clear lK lM lP
          have hmB := LM.out _ (below_of_drew _)
          change _ = some (mapOf S.files S.clock) at hmB
          go_region_held3 (fun w' => w'.cell? ⟨d, 4, none⟩ = some (.map (some m)) ∧ w'.cell? ⟨w3.heap.size, 0, none⟩ = some (.string (f.data ++ x)) ∧ w'.cell? ⟨w3.heap.size, 1, none⟩ = some (.int .i64 (f.synced : Int))) (first | exact (LK.out _ (below_of_drew _)).2.2 | exact (LP.out _ _ (below_of_drew _)).2.2) (fail)
          go_wp2
          go_ret
          refine ⟨rfl, (HD3.out.later (below_alloc (Below.refl _ _) _).drew).setFiles _ _, (ho1.trans (Only.of_below ((below_alloc (below_step hb2 hb3) _).drew))).put _⟩
      · have hroom' : decide ((400000 : Int) - (sizeAll S.files : Int) < (x.size : Int)) = true := decide_eq_true (by omega)
        cases hfl : S.fails
        · have HE := Lib.hid (show S.append s x = (10, S.op) by unfold St.append appErr; simp [*])
          have HFL := Lib.hid hfl
          rw [HE.out]
          clear hfl HE hh hroom
          go_enter Tryz.func19, Tryz.ntmps19
          go_wp2_with fail
          refine (off_any d m S _ HD.out).mono ?_
          rintro e w1 ⟨rfl, rfl⟩
          rw [HON'.out]
          go_wp2_with fail
          refine (HX.out _ HD.out).mono ?_
          rintro e w1 ⟨rfl, hd1, ho1⟩
          rw [HFL.out]
          have HD1 := Lib.hid hd1
          clear hd1
          go_wp2_with fail
          refine (lacks_any d m S.op s _ HD1.out).mono ?_
          rintro e w2 ⟨rfl, hb2⟩
          rw [show lackErr S.op.files s = _ from HL.out]
          have HD2 := Lib.hid (HD1.out.later hb2)
          have c4 := HD2.out.facts.2.2.2.2.1
          go_wp2_with (first | (go_at_call 53; refine (size_any d m S.op _ HD2.out HS.out (by have := HT.out; show sizeAll S.files ≤ _; omega)).mono ?_; rintro e w3 ⟨rfl, hb3⟩; rw [show sizeAll S.op.files = sizeAll S.files from rfl]))
          go_ret
          exact ⟨rfl, HD2.out.later hb3, ho1.trans (Only.of_below (below_step hb2 hb3))⟩
        · have HE := Lib.hid (show S.append s x = (14, S.op) by unfold St.append appErr; simp [*])
          have HFL := Lib.hid hfl
          rw [HE.out]
          clear hfl HE hh hroom
          go_enter Tryz.func19, Tryz.ntmps19
          go_wp2_with fail
          refine (off_any d m S _ HD.out).mono ?_
          rintro e w1 ⟨rfl, rfl⟩
          rw [HON'.out]
          go_wp2_with fail
          refine (HX.out _ HD.out).mono ?_
          rintro e w1 ⟨rfl, hd1, ho1⟩
          rw [HFL.out]
          have HD1 := Lib.hid hd1
          clear hd1
          go_wp2_with fail
          refine (lacks_any d m S.op s _ HD1.out).mono ?_
          rintro e w2 ⟨rfl, hb2⟩
          rw [show lackErr S.op.files s = _ from HL.out]
          have HD2 := Lib.hid (HD1.out.later hb2)
          have c4 := HD2.out.facts.2.2.2.2.1
          go_wp2_with (first | (go_at_call 53; refine (size_any d m S.op _ HD2.out HS.out (by have := HT.out; show sizeAll S.files ≤ _; omega)).mono ?_; rintro e w3 ⟨rfl, hb3⟩; rw [show sizeAll S.op.files = sizeAll S.files from rfl]))
          go_ret
          exact ⟨rfl, HD2.out.later hb3, ho1.trans (Only.of_below (below_step hb2 hb3))⟩

end Go.Proofs.YtncpeaamfmfcgaaGreat
