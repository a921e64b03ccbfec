/- Twin: the disk once more. -/
import Derived.Test.YtncpeaamfmfcgaaDiskFiles
namespace Go.Proofs.Ytncpeaamfmfcgaa
open Go.RowKit

theorem made_twin (w : World) (S : St) : IsDisk ((w.alloc (.map (entsOf S.files) S.clock)).alloc (.cells (S.cells w.heap.size) 39)).drew (w.heap.size + 1) w.heap.size S := by
  refine ⟨?_, ?_⟩
  · show ((w.alloc (.map (entsOf S.files) S.clock)).alloc (.cells (S.cells w.heap.size) 39)).heap[w.heap.size + 1]? = _
    have := heap_alloc_new (w.alloc (.map (entsOf S.files) S.clock)) (.cells (S.cells w.heap.size) 39)
    rw [show (w.alloc (.map (entsOf S.files) S.clock)).heap.size = w.heap.size + 1 by simp] at this
    exact this
  · show ((w.alloc (.map (entsOf S.files) S.clock)).alloc (.cells (S.cells w.heap.size) 39)).heap[w.heap.size]? = _
    rw [heap_alloc_old _ _ (by simp)]; exact heap_alloc_new _ _

set_option maxHeartbeats 4000000 in
theorem twin_any (d m : Nat) (S : St) (w : World) (h : IsDisk w d m S) :
    Calls Try.prog 23 #[.pointer (some ⟨d, 0, none⟩)] w fun e w' => e = .returned (.pointer (some ⟨w.heap.size + 1, 0, none⟩)) ∧ IsDisk w' (w.heap.size + 1) w.heap.size S ∧ Below w.heap.size w w' := by
  have hlt := h.lt.1
  have hC := fun (W : World) (hb : Below w.heap.size w W) => (show W.cell? ⟨d, 0, none⟩ = some (.bool S.on) ∧ W.cell? ⟨d, 1, none⟩ = some (.bool S.fused) ∧ W.cell? ⟨d, 2, none⟩ = some (.int .i64 S.left) ∧ W.cell? ⟨d, 3, none⟩ = some (.int .i64 (S.ops : Int)) ∧ W.cell? ⟨d, 4, none⟩ = some (.map (some m)) from have k := (h.later hb).facts; ⟨k.1, k.2.1, k.2.2.1, k.2.2.2.1, k.2.2.2.2.1⟩)
  have HD := Lib.hid h
  have HC := Lib.hid hC
  have HM := Lib.hid (made_twin w S)
  clear h hC
  go_enter Try.func23, Try.ntmps23
  go_wp2_with fail
  go_region_held3 (fun w' => w'.cell? ⟨d, 0, none⟩ = some (.bool S.on) ∧ w'.cell? ⟨d, 1, none⟩ = some (.bool S.fused) ∧ w'.cell? ⟨d, 2, none⟩ = some (.int .i64 S.left) ∧ w'.cell? ⟨d, 3, none⟩ = some (.int .i64 (S.ops : Int)) ∧ w'.cell? ⟨d, 4, none⟩ = some (.map (some m))) (first | exact HC.out _ (below_of_drew w) | exact HC.out _ ((below_alloc (Below.refl _ w) _).drew) | exact HC.out _ (((below_alloc (Below.refl _ w) _).drew).alloc (by simp [World.drew]) _)) (first | (go_at_call 42; refine (AnyW.maps_Clone Try.clone42 m (entsOf S.files) S.clock _ (HD.out.later (below_of_drew w)).map).mono ?_; rintro e w2 ⟨rfl, rfl⟩))
  all_goals
    go_wp2
    go_ret
    exact ⟨rfl, HM.out, (below_alloc (below_alloc (Below.refl _ w) _) _).drew⟩

end Go.Proofs.Ytncpeaamfmfcgaa
