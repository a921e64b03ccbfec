/- Few and short texts make a group that fits; a log whose guards let nothing in. -/
import Derived.Test.YtncpeaamfmfcgaaGreatWalAlive
import Derived.Test.YtncpeaamfmfcgaaGreatBook
namespace Go.Proofs.YtncpeaamfmfcgaaGreat
open Go.RowKit Go.Proofs.YtncpeaamfmfcgaaGreat.Sum

theorem sum_raw (l : List ByteArray) : ((raw l).map fun s => s.length + 9).sum = total l + 9 * l.length := by
  induction l with
  | nil => rfl
  | cons s l ih =>
    show (s.data.toList.length + 9) + ((raw l).map fun s => s.length + 9).sum = _
    rw [ih, List.length_cons, total, ← Lib.size_eq]
    omega
theorem mem_total {l : List ByteArray} {s : ByteArray} (h : s ∈ l) : s.size ≤ total l := by
  induction l with
  | nil => cases h
  | cons t l ih =>
    rcases List.mem_cons.1 h with rfl | h
    · show s.size ≤ s.size + total l; omega
    · have := ih h; show s.size ≤ t.size + total l; omega
/-- What few and short texts make. -/
structure Few (few room : Nat) (l : List ByteArray) : Prop where
  len : l.length ≤ few
  sum : total l ≤ room
theorem few_of {few room : Nat} {l : List ByteArray} (h : shortB few room l = true) : Few few room l := by
  have := of_decide_eq_true h
  exact ⟨by omega, by omega⟩
theorem Few.fits {few room : Nat} {l : List ByteArray} (h : Few few room l) (hf : few ≤ 100000) (hr : room ≤ 50000) : Fits (raw l) := by
  refine ⟨by unfold raw; rw [List.length_map]; have := h.len; omega, fun s hs => ?_⟩
  obtain ⟨x, hx, rfl⟩ := List.mem_map.1 hs
  have := mem_total hx
  have := h.sum
  rw [← Lib.size_eq]; omega
theorem Few.bytes {few room : Nat} {l : List ByteArray} (h : Few few room l) (hf : few ≤ 100000) : (groupBytes (raw l)).length ≤ room + 9 * few + 12 := by
  have h1 := group_small (raw l) (total l + 9 * l.length) (by rw [sum_raw]; exact Nat.le_refl _) (by unfold raw; rw [List.length_map]; have := h.len; omega)
  have := h.len
  have := h.sum
  omega

theorem ints_nil (w : World) : Ints w (.slice none 0 0) [] := ⟨none, 0, rfl, fun k hk => absurd hk (by simp)⟩

/-- A slice that was there first stays, whatever the log's calls do. -/
theorem Live.older {w0 w W : World} {B d m g : Nat} {rv rv' : Value} {S : St} {name : ByteArray} {gs : List (List (List UInt8))} (h : Live w0 B w d m g rv S name gs) (hB : B = w0.heap.size) {v : Value} {l : List ByteArray} (hv : Strs w0 v l) (hk : Keeps d m g rv rv' w W) : Strs W v l :=
  strs_older hv hB h.here.below h.here.size h.here.hd h.here.hm h.here.hg (fun k q => (h.here.log.row k q).1) hk
theorem At.older {w0 w W : World} {B d m g : Nat} {rv rv' : Value} {S : St} {L : LSt} (h : At w0 B w d m g rv S L) (hB : B = w0.heap.size) {v : Value} {l : List ByteArray} (hv : Strs w0 v l) (hk : Keeps d m g rv rv' w W) : Strs W v l :=
  strs_older hv hB h.below h.size h.hd h.hm h.hg (fun k q => (h.log.row k q).1) hk
theorem At.now {w0 w : World} {B d m g : Nat} {rv : Value} {S : St} {L : LSt} (h : At w0 B w d m g rv S L) (hB : B = w0.heap.size) {v : Value} {l : List ByteArray} (hv : Strs w0 v l) : Strs w v l := by
  subst hB; exact hv.later h.below

end Go.Proofs.YtncpeaamfmfcgaaGreat
