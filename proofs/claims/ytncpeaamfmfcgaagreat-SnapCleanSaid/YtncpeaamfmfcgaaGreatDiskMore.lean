/- New, Read, On, Ops, Fuse, Restore. -/
import Derived.Test.YtncpeaamfmfcgaaGreatDiskAppend
import Derived.Carry
namespace Go.Proofs.YtncpeaamfmfcgaaGreat
open Go.RowKit

def St.new : St := ⟨true, false, 0, 0, [], 0⟩

set_option maxHeartbeats 1000000 in
theorem new_any (w : World) : Calls Tryz.prog 17 #[] w fun e w' => e = .returned (.pointer (some ⟨w.heap.size + 1, 0, none⟩)) ∧ IsDisk w' (w.heap.size + 1) w.heap.size St.new ∧ Below w.heap.size w w' := by
  have hmm := @run_makeMap Tryz.prog
  go_enter Tryz.func17, Tryz.ntmps17
  go_wp2
  go_ret
  refine ⟨rfl, ⟨?_, ?_⟩, below_alloc (below_alloc (Below.refl _ w) _) _⟩
  · have := heap_alloc_new (w.alloc (.map #[] 0)) (.cells #[.bool true, .bool false, .int .i64 0, .int .i64 0, .map (some w.heap.size)] 47)
    rw [show (w.alloc (.map #[] 0)).heap.size = w.heap.size + 1 by simp] at this
    exact this
  · rw [heap_alloc_old _ _ (by simp)]; exact heap_alloc_new _ _

def readData (l : List FE) (s : ByteArray) : ByteArray := match fileOf l s with | some f => f.data | none => ByteArray.empty
theorem fileOf_miss {l : List FE} {s : ByteArray} (h : has l s = false) : fileOf l s = none := by
  unfold fileOf; exact List.find?_eq_none.2 fun x hx => by simp [has_false h x hx]

theorem run_field0 (x : ByteArray) (n : Int) (W : World) : (Instr.field 81 (.agg #[.string x, .int .i64 n]) 0).run Tryz.prog W = .ok (.string x) W := by kernel_rfl

set_option maxHeartbeats 2000000 in
theorem read_any (d m : Nat) (S : St) (s : ByteArray) (w : World) (h : IsDisk w d m S) :
    Calls Tryz.prog 21 #[.pointer (some ⟨d, 0, none⟩), .string s] w fun e w' =>
      e = .returned (.tuple (if S.on then #[.string (readData S.files s), .int .i64 (lackErr S.files s)] else #[.string ByteArray.empty, .int .i64 14])) ∧ Below w.heap.size w w' := by
  have hlt := h.lt.1
  have c4 := fun (W : World) (hb : Below w.heap.size w W) => (h.later hb).facts.2.2.2.2.1
  have K0 := Lib.hid (c4 _ (below_of_drew w))
  have KK := Lib.hid c4
  have HD := Lib.hid h
  clear h c4
  rcases (show S.on = true ∨ S.on = false by cases S.on <;> simp) with hon | hon
  · rw [hon]
    have HON := Lib.hid hon
    clear hon
    have hr : ∃ n : Int, ∀ W : World, W.heap[m]? = some (mapOf S.files S.clock) → (Instr.lookup 45 (.map (some m)) (.string s) false).run Tryz.prog W = .ok (.agg #[.string (readData S.files s), .int .i64 n]) W := by
      cases hh : has S.files s
      · refine ⟨0, fun W hb => ?_⟩
        rw [show readData S.files s = ByteArray.empty by unfold readData; rw [fileOf_miss hh]]
        exact run_look_miss1 (P := Tryz.prog) (w := W) (m := m) (clock := S.clock) Tryz.underlying45 Tryz.underlying9 (zeroFile W) hb s (has_false hh)
      · obtain ⟨fp, f, fq, he, hf, hfp⟩ := has_true hh
        refine ⟨f.synced, fun W hb => ?_⟩
        rw [show readData S.files s = f.data by unfold readData; rw [he, fileOf_hit hf hfp]]
        rw [he] at hb
        exact run_look_hit1 (P := Tryz.prog) (w := W) (m := m) (clock := S.clock) Tryz.underlying45 Tryz.underlying9 fp fq f hb s hf hfp
    obtain ⟨n, hr⟩ := hr
    have hfd := run_field0
    go_enter Tryz.func21, Tryz.ntmps21
    go_wp2_with fail
    refine (off_any d m S _ HD.out).mono ?_
    rintro e w1 ⟨rfl, rfl⟩
    rw [HON.out]
    have hm0 := (HD.out.later (below_of_drew w)).map
    go_wp2_with fail
    go_region_held3 (fun w' => w'.cell? ⟨d, 4, none⟩ = some (.map (some m))) (first | exact K0.out | exact KK.out _ ((below_of_drew w).trans (by assumption))) (first | (go_at_call 52; refine (lacks_any d m S s _ (HD.out.later (below_of_drew w))).mono ?_; rintro e w2 ⟨rfl, hb1⟩; have hm1 := (HD.out.later ((below_of_drew w).trans hb1)).map))
    all_goals
      go_wp2
      go_ret2
      exact ⟨rfl, (below_of_drew w).trans (by assumption)⟩
  · rw [hon]
    have HON := Lib.hid hon
    clear hon
    go_enter Tryz.func21, Tryz.ntmps21
    go_wp2_with fail
    refine (off_any d m S _ HD.out).mono ?_
    rintro e w1 ⟨rfl, rfl⟩
    rw [HON.out]
    go_wp2
    go_ret2
    exact ⟨rfl, Below.refl _ _⟩

set_option maxHeartbeats 1000000 in
theorem on_any (d m : Nat) (S : St) (w : World) (h : IsDisk w d m S) : Calls Tryz.prog 34 #[.pointer (some ⟨d, 0, none⟩)] w fun e w' => e = .returned (.bool S.on) ∧ w' = w := by
  obtain ⟨c0, -, -, -, -, -⟩ := h.facts
  clear h
  go_enter Tryz.func34, Tryz.ntmps34
  go_wp2
  go_ret
  exact ⟨rfl, rfl⟩

set_option maxHeartbeats 1000000 in
theorem ops_any (d m : Nat) (S : St) (w : World) (h : IsDisk w d m S) : Calls Tryz.prog 23 #[.pointer (some ⟨d, 0, none⟩)] w fun e w' => e = .returned (.int .i64 (S.ops : Int)) ∧ w' = w := by
  obtain ⟨-, -, -, c3, -, -⟩ := h.facts
  clear h
  go_enter Tryz.func23, Tryz.ntmps23
  go_wp2
  go_ret
  exact ⟨rfl, rfl⟩

set_option maxHeartbeats 1000000 in
theorem fuse_any (d m : Nat) (S : St) (n : Int) (w : World) (h : IsDisk w d m S) : Calls Tryz.prog 24 #[.pointer (some ⟨d, 0, none⟩), .int .i64 n] w fun e w' => e = .returned (.tuple #[]) ∧ IsDisk w' d m { S with fused := decide (0 ≤ n), left := n } ∧ Only d m w w' := by
  have h' := Lib.hid h
  obtain ⟨-, c1, c2, -, -, -, f1, f2, -, -⟩ := h.facts
  have hlt := h.lt.1
  clear h
  go_enter Tryz.func24, Tryz.ntmps24
  go_wp2
  go_end0
  exact ⟨rfl, (h'.out.setFused _).setLeft _, ((Only.refl _ _ _).setCell _ _).setCell _ _⟩

set_option maxHeartbeats 1000000 in
theorem restore_any (d m : Nat) (S : St) (w : World) (h : IsDisk w d m S) : Calls Tryz.prog 26 #[.pointer (some ⟨d, 0, none⟩)] w fun e w' => e = .returned (.tuple #[]) ∧ IsDisk w' d m { S with on := true } ∧ Only d m w w' := by
  have h' := Lib.hid h
  obtain ⟨c0, -, -, -, c4, f0, -, -, -, -⟩ := h.facts
  have hlt := h.lt.1
  have hq := fun W => run_eql_map_nil (P := Tryz.prog) W 45 9 81 (some m) Tryz.underlying45
  simp only [Option.isNone] at hq
  clear h
  go_enter Tryz.func26, Tryz.ntmps26
  go_wp2
  go_end0
  exact ⟨rfl, h'.out.setOn _, (Only.refl _ _ _).setCell _ _⟩

end Go.Proofs.YtncpeaamfmfcgaaGreat
