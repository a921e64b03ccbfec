/- The operations at a disk with one file. -/
import Derived.Test.YtncpeaamfmfcgaaGreatDiskOk
namespace Go.Proofs.YtncpeaamfmfcgaaGreat
open Go.RowKit

theorem new_ex (w : World) : Calls Tryz.prog 17 #[] w fun e w' => ∃ d m, w.heap.size ≤ d ∧ w.heap.size ≤ m ∧ e = .returned (.pointer (some ⟨d, 0, none⟩)) ∧ IsDisk w' d m St.new ∧ Below w.heap.size w w' :=
  (new_any w).mono fun _ _ ⟨h1, h2, h3⟩ => ⟨_, _, Nat.le_succ _, Nat.le_refl _, h1, h2, h3⟩

theorem one_create_any {d m : Nat} {s : ByteArray} (hv : validB s = true) (w : World) (h : IsDisk w d m St.new) :
    Calls Tryz.prog 37 #[.pointer (some ⟨d, 0, none⟩), .string s] w fun e w' => e = .returned (.int .i64 0) ∧ IsDisk w' d m (one s ByteArray.empty 0 1) ∧ Only d m w w' := by
  have hs : s.size ≤ 40 := by have := of_decide_eq_true hv; omega
  have k := create_any d m St.new s w h (by omega) St.Ok.new.fits
  rw [one_create hv] at k
  exact k
theorem one_append_any {d m : Nat} {s data x : ByteArray} {sy n : Nat} (hs : s.size ≤ 40) (hn : n ≤ 100) (hx : data.size + x.size ≤ 400000) (hy : sy ≤ data.size) (w : World) (h : IsDisk w d m (one s data sy n)) :
    Calls Tryz.prog 19 #[.pointer (some ⟨d, 0, none⟩), .string s, .string x] w fun e w' => e = .returned (.int .i64 0) ∧ IsDisk w' d m (one s (data ++ x) sy (n + 1)) ∧ Only d m w w' := by
  have hO := one_ok hs (show data.size ≤ 400000 by omega) hy hn
  have k := append_any d m _ s x w h hO.fits hO.apart hO.stamps hO.room (by omega)
  rw [one_append hn hx] at k
  exact k
theorem one_sync_any {d m : Nat} {s data : ByteArray} {sy n : Nat} (hs : s.size ≤ 40) (hn : n ≤ 100) (hx : data.size ≤ 400000) (hy : sy ≤ data.size) (w : World) (h : IsDisk w d m (one s data sy n)) :
    Calls Tryz.prog 47 #[.pointer (some ⟨d, 0, none⟩), .string s] w fun e w' => e = .returned (.int .i64 0) ∧ IsDisk w' d m (one s data data.size (n + 1)) ∧ Only d m w w' := by
  have hO := one_ok hs hx hy hn
  have k := sync_any d m _ s w h hO.fits hO.apart
  rw [one_sync hn] at k
  exact k
theorem ints_only {w : World} {d m b off n cap : Nat} {l : List Int} (hl : n = l.length) (hb : b < w.heap.size) (hd : b ≠ d) (hm : b ≠ m) (hc : ∀ (k : Nat) (h : k < l.length), w.cell? ⟨b, off + k, none⟩ = some (.int .i64 l[k])) :
    ∀ W, Only d m w W → Ints W (.slice (some ⟨b, off, none⟩) n cap) l := fun W ho => by
  subst hl
  exact ⟨_, _, rfl, fun k hk => ⟨b, off, rfl, Nat.lt_of_lt_of_le hb ho.size, only_cell ho (hc k hk) hd hm⟩⟩
theorem one_crash_any {d m : Nat} {s data : ByteArray} {sy n : Nat} (kv : Value) (keep : List Int) (hs : s.size ≤ 40) (hn : n ≤ 100) (hx : data.size ≤ 400000) (hy : sy ≤ data.size) (w : World) (h : IsDisk w d m (one s data sy n)) (hk : ∀ W, Only d m w W → Ints W kv keep) :
    Calls Tryz.prog 25 #[.pointer (some ⟨d, 0, none⟩), kv] w fun e w' => e = .returned (.tuple #[]) ∧ IsDisk w' d m (oneOff s (data.extract 0 (sy + keptAt keep 0 ⟨s, data, sy, 0⟩)) (sy + keptAt keep 0 ⟨s, data, sy, 0⟩) n) ∧ Only d m w w' := by
  have hO := one_ok hs hx hy hn
  have k := crash_any d m _ kv keep w h hO.stamps hO.apart hO.names (by have := hO.few; omega) hO.whole hk
  rw [one_crash] at k
  exact k
theorem one_crash1_any {d m : Nat} {s data : ByteArray} {sy n : Nat} (a : Int) (t : TypeId) (hs : s.size ≤ 40) (hn : n ≤ 100) (hx : data.size ≤ 400000) (hy : sy ≤ data.size) (w : World) (h : IsDisk w d m (one s data sy n)) :
    Calls Tryz.prog 25 #[.pointer (some ⟨d, 0, none⟩), .slice (some ⟨w.heap.size, 0, none⟩) 1 1] (w.alloc (.cells #[.int .i64 a] t)) fun e w' => e = .returned (.tuple #[]) ∧ IsDisk w' d m (oneOff s (data.extract 0 (sy + keptAt [a] 0 ⟨s, data, sy, 0⟩)) (sy + keptAt [a] 0 ⟨s, data, sy, 0⟩) n) ∧ Only d m w w' := by
  have hb := below_alloc (Below.refl _ w) (.cells #[.int .i64 a] t)
  have h1 := h.lt
  refine (one_crash_any _ [a] hs hn hx hy _ (h.later hb) (ints_only rfl (by simp) (by omega) (by omega) ?_)).mono fun e w' ⟨k1, k2, k3⟩ => ⟨k1, k2, (Only.of_below hb).trans k3⟩
  intro k hk
  obtain rfl : k = 0 := by simp at hk; omega
  rw [World.cell?_alloc_at _ _ _ _ rfl]; rfl
theorem one_crash2_any {d m : Nat} {s data : ByteArray} {sy n : Nat} (a b : Int) (t : TypeId) (hs : s.size ≤ 40) (hn : n ≤ 100) (hx : data.size ≤ 400000) (hy : sy ≤ data.size) (w : World) (h : IsDisk w d m (one s data sy n)) :
    Calls Tryz.prog 25 #[.pointer (some ⟨d, 0, none⟩), .slice (some ⟨w.heap.size, 0, none⟩) 2 2] (w.alloc (.cells #[.int .i64 a, .int .i64 b] t)) fun e w' => e = .returned (.tuple #[]) ∧ IsDisk w' d m (oneOff s (data.extract 0 (sy + keptAt [a, b] 0 ⟨s, data, sy, 0⟩)) (sy + keptAt [a, b] 0 ⟨s, data, sy, 0⟩) n) ∧ Only d m w w' := by
  have hb := below_alloc (Below.refl _ w) (.cells #[.int .i64 a, .int .i64 b] t)
  have h1 := h.lt
  refine (one_crash_any _ [a, b] hs hn hx hy _ (h.later hb) (ints_only rfl (by simp) (by omega) (by omega) ?_)).mono fun e w' ⟨k1, k2, k3⟩ => ⟨k1, k2, (Only.of_below hb).trans k3⟩
  intro k hk
  have : k = 0 ∨ k = 1 := by simp at hk; omega
  rcases this with rfl | rfl <;> (rw [World.cell?_alloc_at _ _ _ _ rfl]; rfl)
theorem oneOff_create_any {d m : Nat} {s data : ByteArray} {sy n : Nat} (t : ByteArray) (ht : t.size ≤ 40) (hn : n ≤ 100) (w : World) (h : IsDisk w d m (oneOff s data sy n)) :
    Calls Tryz.prog 37 #[.pointer (some ⟨d, 0, none⟩), .string t] w fun e w' => e = .returned (.int .i64 14) ∧ IsDisk w' d m (oneOff s data sy n) ∧ Only d m w w' :=
  create_any d m (oneOff s data sy n) t w h (by omega) ⟨by show n ≤ _; omega, by show (-9223372036854775808 : Int) ≤ 0; omega, by show (0 : Int) ≤ 9223372036854775807; omega⟩
theorem oneOff_restore_any {d m : Nat} {s data : ByteArray} {sy n : Nat} (w : World) (h : IsDisk w d m (oneOff s data sy n)) :
    Calls Tryz.prog 26 #[.pointer (some ⟨d, 0, none⟩)] w fun e w' => e = .returned (.tuple #[]) ∧ IsDisk w' d m (one s data sy n) ∧ Only d m w w' := restore_any d m _ w h
theorem one_read_any {d m : Nat} {s data : ByteArray} {sy n : Nat} (w : World) (h : IsDisk w d m (one s data sy n)) :
    Calls Tryz.prog 21 #[.pointer (some ⟨d, 0, none⟩), .string s] w fun e w' => e = .returned (.tuple #[.string data, .int .i64 0]) ∧ Below w.heap.size w w' := by
  have k := read_any d m _ s w h
  rw [readData_one, lackErr_true (has_one s data sy n)] at k
  exact k
theorem oneOff_read_any {d m : Nat} {s data : ByteArray} {sy n : Nat} (t : ByteArray) (w : World) (h : IsDisk w d m (oneOff s data sy n)) :
    Calls Tryz.prog 21 #[.pointer (some ⟨d, 0, none⟩), .string t] w fun e w' => e = .returned (.tuple #[.string ByteArray.empty, .int .i64 14]) ∧ Below w.heap.size w w' := read_any d m _ t w h


end Go.Proofs.YtncpeaamfmfcgaaGreat
