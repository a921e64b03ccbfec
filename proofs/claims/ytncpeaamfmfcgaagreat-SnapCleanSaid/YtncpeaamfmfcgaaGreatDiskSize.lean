/- A disk's bytes, added up: the loop over its map, in whatever order. -/
import Derived.Test.YtncpeaamfmfcgaaGreatDiskDo
import Derived.Maps.RangeRun
namespace Go.Proofs.YtncpeaamfmfcgaaGreat
open Go.RowKit
open Go.ChangeMaps (setBlock)

/-- How many bytes all files have. -/
def sizeAll : List FE → Nat
  | [] => 0
  | f :: l => f.data.size + sizeAll l
theorem sizeAll_append (p q : List FE) : sizeAll (p ++ q) = sizeAll p + sizeAll q := by
  induction p with
  | nil => simp [sizeAll]
  | cons f p ih => simp only [List.cons_append, sizeAll, ih]; omega
/-- Of those that have been handed out. -/
def seenSize : List FE → Array Nat → Nat
  | [], _ => 0
  | f :: l, seen => (if seen.contains f.born then f.data.size else 0) + seenSize l seen
theorem seenSize_none (l : List FE) : seenSize l #[] = 0 := by
  induction l with
  | nil => rfl
  | cons f l ih => simp [seenSize, ih]
theorem seenSize_le (l : List FE) (seen : Array Nat) : seenSize l seen ≤ sizeAll l := by
  induction l with
  | nil => exact Nat.le_refl _
  | cons f l ih => simp only [seenSize, sizeAll]; split <;> omega
theorem seenSize_other (seen : Array Nat) (b : Nat) : ∀ (l : List FE), b ∉ l.map (·.born) → seenSize l (seen.push b) = seenSize l seen
  | [], _ => rfl
  | x :: l, h => by
    have hx : (x.born == b) = false := by
      cases hc : x.born == b with
      | false => rfl
      | true => exact absurd (List.mem_cons.2 (Or.inl (beq_iff_eq.1 hc).symm)) h
    have ih := seenSize_other seen b l (fun e => h (List.mem_cons.2 (Or.inr e)))
    simp only [seenSize, contains_push, hx, Bool.or_false, ih]
theorem seenSize_push (seen : Array Nat) (e : FE) (hs : seen.contains e.born = false) : ∀ (l : List FE), (l.map (·.born)).Nodup → e ∈ l → seenSize l (seen.push e.born) = seenSize l seen + e.data.size
  | x :: l, hn, he => by
    have hn' : x.born ∉ l.map (·.born) ∧ (l.map (·.born)).Nodup := List.nodup_cons.1 hn
    rcases List.mem_cons.1 he with rfl | h
    · have := seenSize_other seen e.born l hn'.1
      simp only [seenSize, contains_push, hs, this, beq_self_eq_true, Bool.or_true]
      simp; omega
    · have hx : (x.born == e.born) = false := by
        cases hc : x.born == e.born with
        | false => rfl
        | true => exact absurd (by rw [beq_iff_eq.1 hc]; exact List.mem_map.2 ⟨e, h, rfl⟩) hn'.1
      have ih := seenSize_push seen e hs l hn'.2 h
      simp only [seenSize, contains_push, hx, Bool.or_false, ih]; omega
theorem seenSize_all (l : List FE) (seen : Array Nat) (h : ∀ f ∈ l, seen.contains f.born = true) : seenSize l seen = sizeAll l := by
  induction l with
  | nil => rfl
  | cons f l ih =>
    have h1 := h f (by simp)
    have h2 := ih fun x hx => h x (by simp [hx])
    simp only [seenSize, sizeAll, h1, h2, if_true]

/-- The map's own stamps: each once, none from later. -/
structure Stamps (l : List FE) (c : Nat) : Prop where
  old : ∀ f ∈ l, f.born < c
  once : (l.map (·.born)).Nodup

def entsOf (l : List FE) : Array MapEntry := (l.map FE.ent).toArray
theorem entsOf_born (l : List FE) : (entsOf l).toList.map (·.born) = l.map (·.born) := by
  simp only [entsOf, List.toList_toArray, List.map_map]; rfl
theorem mem_ents {l : List FE} {e : MapEntry} (h : e ∈ (entsOf l).toList) : ∃ f ∈ l, e = f.ent := by
  rw [entsOf, List.toList_toArray] at h
  obtain ⟨f, hf, rfl⟩ := List.mem_map.1 h
  exact ⟨f, hf, rfl⟩

/-- 'next' over a disk's files: nothing is left, and all have been seen; or one that has not. -/
theorem next_files {P : Program} (w : World) (r m clock : Nat) (l : List FE) (seen : Array Nat) (last : Nat) (hs : Stamps l clock)
    (hr : w.heap[r]? = some (.mapIter (some m) clock seen last)) (hb : w.heap[m]? = some (mapOf l clock)) (hl : clock ≤ last) :
    ((∀ f ∈ l, seen.contains f.born = true) ∧ ∀ ty, (Instr.next (.pointer (some ⟨r, 0, none⟩)) false ty).run P w = .ok (.tuple #[.bool false]) w) ∨
    ∃ f ∈ l, seen.contains f.born = false ∧ (leftOf (entsOf l) (seen.push f.born)).size < (leftOf (entsOf l) seen).size ∧ ∃ w1 : World, (w1 = w ∨ w1 = w.drew) ∧
      (∀ ty, (Instr.next (.pointer (some ⟨r, 0, none⟩)) false ty).run P w = .ok (.tuple #[.bool true, .string f.name, .agg #[.string f.data, .int .i64 (f.synced : Int)]]) (setBlock w1 r (.mapIter (some m) clock (seen.push f.born) clock))) := by
  rcases run_next_at (P := P) w 0 r m clock last seen (entsOf l) clock hr hb (fun x hx => by obtain ⟨f, hf, rfl⟩ := mem_ents hx; exact hs.old f hf) hl with ⟨h0, hrun⟩ | ⟨e, he, w1, hw1, hrun⟩
  · refine .inl ⟨fun f hf => ?_, fun _ => hrun⟩
    cases hc : seen.contains f.born with
    | true => rfl
    | false =>
      exfalso
      have hin : f.ent ∈ leftOf (entsOf l) seen := by
        unfold leftOf
        rw [Array.mem_filter]
        exact ⟨by rw [entsOf, List.mem_toArray]; exact List.mem_map.2 ⟨f, hf, rfl⟩, by show (!seen.contains f.born) = true; rw [hc]; rfl⟩
      have := Array.size_pos_of_mem hin
      omega
  · have hm := mem_left he
    obtain ⟨f, hf, rfl⟩ := mem_ents hm.1
    exact .inr ⟨f, hf, hm.2, left_shrinks _ _ _ he, w1, hw1, fun _ => hrun⟩

theorem entry_files {P : Program} (w : World) (r m clock : Nat) (l : List FE) (seen : Array Nat) (f : FE) (hs : Stamps l clock) (hf : f ∈ l)
    (hr : w.heap[r]? = some (.mapIter (some m) clock (seen.push f.born) clock)) (hb : w.heap[m]? = some (mapOf l clock)) :
    (Instr.entry (.pointer (some ⟨r, 0, none⟩))).run P w = .ok (.tuple #[.string f.name, .agg #[.string f.data, .int .i64 (f.synced : Int)]]) w :=
  run_entry_at (P := P) w r m clock seen (entsOf l) clock f.ent hr hb (by rw [entsOf, List.toList_toArray]; exact List.mem_map.2 ⟨f, hf, rfl⟩) (by rw [entsOf_born]; exact hs.once)

theorem iterSeen_at {w : World} {r : Nat} {a : Option Nat} {b : Nat} {s : Array Nat} {c : Nat} (h : w.heap[r]? = some (.mapIter a b s c)) : w.iterSeen r = s := by
  unfold World.iterSeen; rw [h]

/-- The iterator has been stepped: its own block alone has turned. -/
theorem below_stepped {B r : Nat} {w w1 w2 : World} {o : Obj} (h : Below B w w1) (hw : w2 = w1 ∨ w2 = w1.drew) (hr : B ≤ r) : Below B w (setBlock w2 r o) := by
  rcases hw with rfl | rfl <;>
  exact h.trans ⟨rfl, rfl, rfl, by show _ ≤ (Array.setIfInBounds _ _ _).size; simp, fun k hk => by
    show (Array.setIfInBounds _ _ _)[k]? = _
    exact (Array.getElem?_setIfInBounds_ne (by omega)).trans rfl⟩
theorem setBlock_at {w w2 : World} {r : Nat} {o : Obj} (hr : r < w.heap.size) (hw : w2 = w ∨ w2 = w.drew) : (setBlock w2 r o).heap[r]? = some o := by
  rcases hw with rfl | rfl
  · show (Array.setIfInBounds _ _ _)[r]? = _
    rw [Array.getElem?_setIfInBounds_self, if_pos hr]
  · show (Array.setIfInBounds w.heap _ _)[r]? = _
    rw [Array.getElem?_setIfInBounds_self, if_pos hr]

set_option maxRecDepth 100000 in
set_option maxHeartbeats 2000000 in
theorem size_any (d m : Nat) (S : St) (w : World) (h : IsDisk w d m S) (hs : Stamps S.files S.clock) (ht : sizeAll S.files ≤ 1000000000) :
    Calls Tryz.prog 53 #[.pointer (some ⟨d, 0, none⟩)] w fun e w' => e = .returned (.int .i64 (sizeAll S.files)) ∧ Below w.heap.size w w' := by
  obtain ⟨-, -, -, -, c4, -⟩ := h.facts
  have hlt := h.lt.1
  have hrg := run_range_map (P := Tryz.prog) w 45 9 81 m (entsOf S.files) S.clock Tryz.underlying45 h.map
  have HD := Lib.hid h
  clear h
  go_enter Tryz.func53, Tryz.ntmps53
  go_wp2
  go_loopw [3] (fun s w' => ∃ (seen : Array Nat) (last : Nat), w'.heap[w.heap.size]? = some (.mapIter (some m) S.clock seen last) ∧ S.clock ≤ last ∧ Below w.heap.size w w' ∧ s = .int .i64 (seenSize S.files seen : Nat)) (fun _ w' => (leftOf (entsOf S.files) (w'.iterSeen w.heap.size)).size)
  case atStart => exact ⟨#[], S.clock, heap_alloc_new _ _, Nat.le_refl _, (Below.refl _ _).alloc (Nat.le_refl _) _, by rw [seenSize_none]; rfl⟩
  case round =>
    obtain ⟨seen, last, hit, hl, hb, rfl⟩ := hrel
    have hrl := (Array.getElem?_eq_some_iff.1 hit).1
    rcases next_files (P := Tryz.prog) _ w.heap.size m S.clock S.files seen last hs hit (HD.out.later hb).map hl with ⟨hall, hnx⟩ | ⟨f, hf, hfs, hlt2, w1, hw1, hnx⟩
    · go_wp2
      go_ret
      rw [seenSize_all _ _ hall]
      exact ⟨rfl, hb⟩
    · have hb1 := below_stepped (o := .mapIter (some m) S.clock (seen.push f.born) S.clock) hb hw1 (Nat.le_refl _)
      have hit1 := setBlock_at (o := .mapIter (some m) S.clock (seen.push f.born) S.clock) hrl hw1
      have hen := entry_files (P := Tryz.prog) _ w.heap.size m S.clock S.files seen f hs hf hit1 (HD.out.later hb1).map
      have hpush := seenSize_push seen f hfs S.files hs.once hf
      have hle := seenSize_le S.files (seen.push f.born)
      generalize hW : setBlock w1 w.heap.size (.mapIter (some m) S.clock (seen.push f.born) S.clock) = W at *
      have hrW := (Array.getElem?_eq_some_iff.1 hit1).1
      go_wp2
      go_roundw
      case rel => exact ⟨seen.push f.born, S.clock, (heap_alloc_old _ _ hrW).trans hit1, Nat.le_refl _, hb1.alloc hb1.size _, by rw [hpush, Int.natCast_add]⟩
      case measure => rw [iterSeen_at ((heap_alloc_old _ _ hrW).trans hit1), iterSeen_at hit]; exact hlt2

end Go.Proofs.YtncpeaamfmfcgaaGreat
