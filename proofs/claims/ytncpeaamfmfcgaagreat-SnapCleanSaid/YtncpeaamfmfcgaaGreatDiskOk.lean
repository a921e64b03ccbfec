/- What holds of every disk; a disk with one file. -/
import Derived.Test.YtncpeaamfmfcgaaGreatDiskCrash
namespace Go.Proofs.YtncpeaamfmfcgaaGreat
open Go.RowKit

structure St.Ok (S : St) : Prop where
  fits : S.Fits
  apart : Apart S.files
  stamps : Stamps S.files S.clock
  names : ∀ f ∈ S.files, f.name.size ≤ 40
  few : S.files.length ≤ 40
  room : sizeAll S.files ≤ 400000
  synced : ∀ f ∈ S.files, f.synced ≤ f.data.size
theorem St.Ok.whole {S : St} (h : S.Ok) : Whole S.files := fun f hf => ⟨h.synced f hf, by have := sizeAll_mem hf; have := h.room; omega⟩

theorem St.Ok.new : St.new.Ok :=
  ⟨⟨by decide, by decide⟩, List.Pairwise.nil, ⟨(fun _ h => nomatch h), List.nodup_nil⟩, (fun _ h => nomatch h), by decide, by decide, (fun _ h => nomatch h)⟩

/-- A disk with one file, its power on, no fuse. -/
def one (s data : ByteArray) (sy n : Nat) : St := ⟨true, false, 0, n, [⟨s, data, sy, 0⟩], 1⟩
def oneOff (s data : ByteArray) (sy n : Nat) : St := ⟨false, false, 0, n, [⟨s, data, sy, 0⟩], 1⟩
theorem one_ok {s data : ByteArray} {sy n : Nat} (hs : s.size ≤ 40) (hd : data.size ≤ 400000) (hy : sy ≤ data.size) (hn : n ≤ 100) : (one s data sy n).Ok := by
  refine ⟨⟨?_, ⟨?_, ?_⟩⟩, ?_, ⟨?_, ?_⟩, ?_, ?_, ?_, ?_⟩
  · show n ≤ _; omega
  · show (-9223372036854775808 : Int) ≤ 0; omega
  · show (0 : Int) ≤ 9223372036854775807; omega
  · exact List.pairwise_singleton _ _
  · intro f hf; obtain rfl := List.mem_singleton.1 hf; exact Nat.zero_lt_one
  · show List.Nodup [0]; simp
  · intro f hf; obtain rfl := List.mem_singleton.1 hf; exact hs
  · show 1 ≤ 40; omega
  · show data.size + 0 ≤ 400000; omega
  · intro f hf; obtain rfl := List.mem_singleton.1 hf; exact hy
theorem oneOff_ok {s data : ByteArray} {sy n : Nat} (hs : s.size ≤ 40) (hd : data.size ≤ 400000) (hy : sy ≤ data.size) (hn : n ≤ 100) : (oneOff s data sy n).Ok :=
  have h := one_ok hs hd hy hn
  ⟨⟨h.fits.ops, h.fits.left⟩, h.apart, h.stamps, h.names, h.few, h.room, h.synced⟩

theorem op_plain {S : St} (hn : S.ops ≤ 100) (hf : S.fused = false) : S.op = { S with ops := S.ops + 1 } ∧ S.fails = false := by
  obtain ⟨on, fused, left, ops, files, clock⟩ := S
  obtain rfl : fused = false := hf
  refine ⟨?_, rfl⟩
  have : min (ops + 1) 4611686018427387904 = ops + 1 := by have : ops ≤ 100 := hn; omega
  simp [St.op, this]

theorem one_create {s : ByteArray} (hv : validB s = true) : St.new.create s = (0, one s ByteArray.empty 0 1) := by
  have he : createErr St.new s = 0 := by unfold createErr; rw [hv]; rfl
  refine (does_ok rfl rfl he).trans ?_
  rfl
theorem has_one (s data : ByteArray) (sy n : Nat) : has (one s data sy n).files s = true := by simp [has, one]
theorem upd_one (s data : ByteArray) (sy n : Nat) (g : FE → FE) : upd (one s data sy n).files s g = [g ⟨s, data, sy, 0⟩] := by simp [upd, one]
theorem one_append {s data x : ByteArray} {sy n : Nat} (hn : n ≤ 100) (hx : data.size + x.size ≤ 400000) : (one s data sy n).append s x = (0, one s (data ++ x) sy (n + 1)) := by
  have he : appErr (one s data sy n) s x = 0 := by
    unfold appErr
    rw [has_one, if_pos rfl, if_pos]
    show data.size + 0 + x.size ≤ 400000; omega
  have h1 := op_plain (S := one s data sy n) hn rfl
  unfold St.append
  rw [he, h1.2, h1.1, upd_one]
  rfl
theorem one_sync {s data : ByteArray} {sy n : Nat} (hn : n ≤ 100) : (one s data sy n).sync s = (0, one s data data.size (n + 1)) := by
  have h1 := op_plain (S := one s data sy n) hn rfl
  refine (does_ok rfl h1.2 (lackErr_true (has_one s data sy n))).trans ?_
  rw [h1.1]
  show (0, ({ one s data sy n with ops := n + 1, files := upd (one s data sy n).files s syncFE } : St)) = _
  rw [upd_one]; rfl
theorem namesOf_single (f : FE) : namesOf [f] = [f.name] := by
  unfold namesOf keysOf
  simp
theorem one_crash (s data : ByteArray) (sy n : Nat) (keep : List Int) : (one s data sy n).crash keep = oneOff s (data.extract 0 (sy + keptAt keep 0 ⟨s, data, sy, 0⟩)) (sy + keptAt keep 0 ⟨s, data, sy, 0⟩) n := by
  unfold St.crash
  rw [show (one s data sy n).files = [⟨s, data, sy, 0⟩] from rfl, namesOf_single]
  simp only [crashAll]
  have h := upd_one s data sy n (crashFE keep 0)
  rw [show (one s data sy n).files = [⟨s, data, sy, 0⟩] from rfl] at h
  rw [h]; rfl
theorem readData_one (s data : ByteArray) (sy n : Nat) : readData (one s data sy n).files s = data := by simp [readData, fileOf, one]

end Go.Proofs.YtncpeaamfmfcgaaGreat
