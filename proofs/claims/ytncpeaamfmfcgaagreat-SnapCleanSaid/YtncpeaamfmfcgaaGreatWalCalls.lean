/- The calls of the log's laws, over a disk with the log's file alone. -/
import Derived.Test.YtncpeaamfmfcgaaGreatWalUno
namespace Go.Proofs.YtncpeaamfmfcgaaGreat
open Go.RowKit Go.Proofs.YtncpeaamfmfcgaaGreat.Sum

/-- A law's own disk and log, with nothing turned of what was there first. -/
structure At (w0 : World) (B : Nat) (w : World) (d m g : Nat) (rv : Value) (S : St) (L : LSt) : Prop where
  below : Below B w0 w
  size : B ≤ w.heap.size
  hd : B ≤ d
  hm : B ≤ m
  hg : B ≤ g
  disk : IsDisk w d m S
  log : IsLog w B g d rv L

theorem Keeps.below {d m g B : Nat} {rv rv' : Value} {w0 w w' : World} (h : Keeps d m g rv rv' w w') (h0 : Below B w0 w) (hB : B ≤ w.heap.size) (hd : B ≤ d) (hm : B ≤ m) (hg : B ≤ g) (hr : ∀ k, rv.ownBlock = some k → B ≤ k) : Below B w0 w' :=
  h0.trans ⟨h.os, h.tape, h.output, h.size, fun k hk => h.block k (by omega) (by omega) (by omega) (by omega) (fun q => by have := hr k q; omega)⟩
theorem IsLog.row {w : World} {base g d : Nat} {rv : Value} {L : LSt} (h : IsLog w base g d rv L) : ∀ k, rv.ownBlock = some k → base ≤ k ∧ k < w.heap.size := by
  obtain ⟨recs, -, ht⟩ := h.rows
  exact World.ownsRow.lt ht
theorem At.later {w0 w w' : World} {B d m g : Nat} {rv : Value} {S : St} {L : LSt} (h : At w0 B w d m g rv S L) (hb : Below w.heap.size w w') : At w0 B w' d m g rv S L :=
  ⟨h.below.trans (hb.mono h.size), Nat.le_trans h.size hb.size, h.hd, h.hm, h.hg, h.disk.later hb, h.log.later hb⟩
theorem At.lts {w0 w : World} {B d m g : Nat} {rv : Value} {S : St} {L : LSt} (h : At w0 B w d m g rv S L) : d < w.heap.size ∧ m < w.heap.size ∧ g < w.heap.size ∧ (∀ k, rv.ownBlock = some k → k < w.heap.size) :=
  ⟨h.disk.lt.1, h.disk.lt.2, h.log.cells.facts.2.2.2.2.2.2.2, fun k q => (h.log.row k q).2⟩

/-- A slice of texts in a block that is none of the log's stays. -/
theorem strs_keeps {d m g b off cap : Nat} {rv rv' : Value} {w W : World} {l : List ByteArray} {n : Nat} (hn : n = l.length) (hv : Strs w (.slice (some ⟨b, off, none⟩) n cap) l) (hb : b < w.heap.size) (h1 : b ≠ d) (h2 : b ≠ m) (h3 : b ≠ g) (h4 : rv.ownBlock ≠ some b) (hk : Keeps d m g rv rv' w W) : Strs W (.slice (some ⟨b, off, none⟩) n cap) l := by
  subst hn
  have hblk := hk.block b hb h1 h2 h3 h4
  rcases hv.cases with ⟨h0, -⟩ | ⟨b', off', cap', he, -, ⟨-, hl⟩, hc⟩
  · subst h0
    exact ⟨_, _, rfl, Nat.zero_le _, (fun h => by cases h), fun k hk => absurd hk (by simp)⟩
  · injection he with he1 _ he3
    injection he1 with he1
    injection he1 with e1 e2 _
    subst e1 e2 he3
    exact Strs.of (Nat.lt_of_lt_of_le hb hk.size) hl fun k hk' => (World.cell?_of_block hblk).trans (hc k hk')
/-- The same, where the slice is older than all of it. -/
theorem strs_older {d m g B : Nat} {rv rv' : Value} {w0 w W : World} {l : List ByteArray} {v : Value} (hv : Strs w0 v l) (hB : B = w0.heap.size) (hb : Below B w0 w) (hs : B ≤ w.heap.size) (hd : B ≤ d) (hm : B ≤ m) (hg : B ≤ g) (hr : ∀ k, rv.ownBlock = some k → B ≤ k) (hk : Keeps d m g rv rv' w W) : Strs W v l := by
  subst hB
  exact hv.later (hk.below hb hs hd hm hg hr)

section
variable {w0 w : World} {B d m g : Nat} {rv : Value} {S : St} {L : LSt}

/-- A log is made on a new disk. -/
theorem open_fresh_any (hB : B ≤ w.heap.size) (hb : Below B w0 w) (hd : B ≤ d) (hm : B ≤ m) (h : IsDisk w d m St.new) (name : ByteArray) (hv : validB name = true) :
    Calls Tryz.prog 12 #[.pointer (some ⟨d, 0, none⟩), .string name] w fun e w' => ∃ g rv S, e = .returned (.tuple #[.pointer (some ⟨g, 0, none⟩), .int .i64 0]) ∧ At w0 B w' d m g rv S ⟨name, [], 0, 0, false⟩ ∧ Uno S name ByteArray.empty 0 ∧ Calm S := by
  obtain ⟨T, h1, h2, h3⟩ := open_fresh hv
  have hn := (of_decide_eq_true hv).2
  have hc := open_any St.Ok.new h name (by omega)
  rw [h1] at hc
  refine hc.mono ?_
  rintro e w' ⟨hd', ho, g, rv, he, hg, hl⟩
  have hsz := ho.size
  exact ⟨g, rv, T, he, ⟨ho.below hb hB hd hm, by omega, hd, hm, by omega, hd', hl.mono hB⟩, h2, h3⟩

/-- A log is opened whose file has groups, and something behind them. -/
theorem open_again_any {name data : ByteArray} {sy : Nat} {r : List (List UInt8)} {n z : Nat} (hB : B ≤ w.heap.size) (hb : Below B w0 w) (hd : B ≤ d) (hm : B ≤ m) (h : IsDisk w d m S) (hu : Uno S name data sy) (hc : Calm S) (hv : validB name = true) (hs : name.size ≤ 39)
    (hg : goodOf data.data.toList = (r, n, z)) (hz : z ≤ data.size) (hp : data.size + z ≤ 400000) :
    Calls Tryz.prog 12 #[.pointer (some ⟨d, 0, none⟩), .string name] w fun e w' => ∃ g rv S' sy', e = .returned (.tuple #[.pointer (some ⟨g, 0, none⟩), .int .i64 0]) ∧ At w0 B w' d m g rv S' ⟨name, r, n, z, false⟩ ∧ Uno S' name (data.extract 0 z) sy' ∧ Calm S' ∧ Only d m w w' ∧ w.heap.size ≤ g ∧ (∀ k, rv.ownBlock = some k → w.heap.size ≤ k) := by
  obtain ⟨T, sy', h1, h2, h3⟩ := open_any_good hu hc hv hs hg hz hp
  have hn := (of_decide_eq_true hv).2
  have hcc := open_any hu.ok h name (by omega)
  rw [h1] at hcc
  refine hcc.mono ?_
  rintro e w' ⟨hd', ho, g, rv, he, hg', hl⟩
  have hsz := ho.size
  exact ⟨g, rv, T, sy', he, ⟨ho.below hb hB hd hm, by omega, hd, hm, by omega, hd', hl.mono hB⟩, h2, h3, ho, hg', fun k q => (hl.row k q).1⟩

/-- What a log may bear at most here. -/
structure Small (L : LSt) : Prop where
  broken : L.broken = false
  recs : L.recs.length ≤ 1000000
  groups : L.groups ≤ 1000000
  size : L.size ≤ 1000000

theorem fits_raw {l : List ByteArray} (h : Fits (raw l)) : l.length ≤ 100000 ∧ ∀ s ∈ l, s.size ≤ 9223372036854775807 := by
  refine ⟨by have := h.1; unfold raw at this; rw [List.length_map] at this; exact this, fun s hs => ?_⟩
  have := h.2 s.data.toList (List.mem_map.2 ⟨s, hs, rfl⟩)
  rw [Lib.size_eq]; omega

/-- A group is written, there being power. -/
theorem commit_calm_any {data : ByteArray} {sy : Nat} (h : At w0 B w d m g rv S L) (hu : Uno S L.name data sy) (hc : Calm S) (hl : Small L) (l : List ByteArray) (v : Value) (hv : Strs w v l) (hvk : ∀ W rv', Keeps d m g rv rv' w W → Strs W v l) (hf : Fits (raw l)) (hne : l ≠ []) (hx : data.size + (groupBytes (raw l)).length ≤ 400000) :
    Calls Tryz.prog 13 #[.pointer (some ⟨g, 0, none⟩), v] w fun e w' => ∃ rv' S', e = .returned (.int .i64 0) ∧ At w0 B w' d m g rv' S' { L with recs := L.recs ++ raw l, groups := L.groups + 1, size := L.size + (groupBytes (raw l)).length } ∧ Uno S' L.name (data ++ ⟨(groupBytes (raw l)).toArray⟩) (data.size + (groupBytes (raw l)).length) ∧ Calm S' ∧ Keeps d m g rv rv' w w' := by
  have hne' : raw l ≠ [] := by intro q; apply hne; have h1 := congrArg List.length q; unfold raw at h1; rw [List.length_map] at h1; exact List.eq_nil_of_length_eq_zero h1
  obtain ⟨T, h1, h2, h3⟩ := commit_calm hu hc hl.broken (raw l) hf hne' hx
  have hcc := commit_any hu.ok h.disk h.log l v hv hvk (fits_raw hf).1 hl.recs hl.groups hl.size h.size (fits_raw hf).2
  rw [h1] at hcc
  refine hcc.mono ?_
  rintro e w' ⟨he, hd', rv', hl', hk⟩
  exact ⟨rv', T, he, ⟨hk.below h.below h.size h.hd h.hm h.hg (fun k q => (h.log.row k q).1), Nat.le_trans h.size hk.size, h.hd, h.hm, h.hg, hd', hl'⟩, h2, h3, hk⟩

/-- A group of no records. -/
theorem commit_none_any (h : At w0 B w d m g rv S L) (hO : S.Ok) (hl : Small L) (v : Value) (hv : Strs w v []) (hvk : ∀ W rv', Keeps d m g rv rv' w W → Strs W v []) :
    Calls Tryz.prog 13 #[.pointer (some ⟨g, 0, none⟩), v] w fun e w' => ∃ rv', e = .returned (.int .i64 0) ∧ At w0 B w' d m g rv' S L ∧ Keeps d m g rv rv' w w' := by
  have hcc := commit_any hO h.disk h.log [] v hv hvk (by simp) hl.recs hl.groups hl.size h.size (by simp)
  rw [show raw [] = [] from rfl, commit_none hl.broken] at hcc
  refine hcc.mono ?_
  rintro e w' ⟨he, hd', rv', hl', hk⟩
  exact ⟨rv', he, ⟨hk.below h.below h.size h.hd h.hm h.hg (fun k q => (h.log.row k q).1), Nat.le_trans h.size hk.size, h.hd, h.hm, h.hg, hd', hl'⟩, hk⟩
end

/-! ### A log whose power fails -/
theorem At.only {w0 w w' : World} {B d m g : Nat} {rv : Value} {S S' : St} {L : LSt} (h : At w0 B w d m g rv S L) (ho : Only d m w w') (hd : IsDisk w' d m S') : At w0 B w' d m g rv S' L :=
  ⟨ho.below h.below h.size h.hd h.hm, Nat.le_trans h.size ho.size, h.hd, h.hm, h.hg, hd, h.log.only h.disk ho⟩
section
variable {w0 w : World} {B d m g : Nat} {rv : Value} {S : St} {L : LSt}
/-- A group is written while a fuse burns: it is there, or the log is broken. -/
theorem commit_fuse_any {data : ByteArray} {sy : Nat} (h : At w0 B w d m g rv S L) (hu : Uno S L.name data sy) (hon : S.on = true) (hl : Small L) (l : List ByteArray) (v : Value) (hv : Strs w v l) (hvk : ∀ W rv', Keeps d m g rv rv' w W → Strs W v l) (hf : Fits (raw l)) (hne : l ≠ []) (hx : data.size + (groupBytes (raw l)).length ≤ 400000) :
    Calls Tryz.prog 13 #[.pointer (some ⟨g, 0, none⟩), v] w fun e w' => ∃ rv' S', Keeps d m g rv rv' w w' ∧ ((e = .returned (.int .i64 0) ∧ At w0 B w' d m g rv' S' { L with recs := L.recs ++ raw l, groups := L.groups + 1, size := L.size + (groupBytes (raw l)).length } ∧ Uno S' L.name (data ++ ⟨(groupBytes (raw l)).toArray⟩) (data.size + (groupBytes (raw l)).length) ∧ S'.on = true ∧ (S.fused = true → 2 ≤ S.left)) ∨
      (e = .returned (.int .i64 14) ∧ At w0 B w' d m g rv' S' { L with broken := true } ∧ Uno S' L.name (data ++ ⟨(groupBytes (raw l)).toArray⟩) sy ∧ S'.on = false)) := by
  have hne' : raw l ≠ [] := by intro q; apply hne; have h1 := congrArg List.length q; unfold raw at h1; rw [List.length_map] at h1; exact List.eq_nil_of_length_eq_zero h1
  have hcc := commit_any hu.ok h.disk h.log l v hv hvk (fits_raw hf).1 hl.recs hl.groups hl.size h.size (fits_raw hf).2
  rcases commit_fuse hu hon hl.broken (raw l) hf hne' hx with ⟨T, h1, h2, h3, h4⟩ | ⟨T, h1, h2, h3⟩
  · rw [h1] at hcc
    refine hcc.mono ?_
    rintro e w' ⟨he, hd', rv', hl', hk⟩
    exact ⟨rv', T, hk, .inl ⟨he, ⟨hk.below h.below h.size h.hd h.hm h.hg (fun k q => (h.log.row k q).1), Nat.le_trans h.size hk.size, h.hd, h.hm, h.hg, hd', hl'⟩, h2, h3, h4⟩⟩
  · rw [h1] at hcc
    refine hcc.mono ?_
    rintro e w' ⟨he, hd', rv', hl', hk⟩
    exact ⟨rv', T, hk, .inr ⟨he, ⟨hk.below h.below h.size h.hd h.hm h.hg (fun k q => (h.log.row k q).1), Nat.le_trans h.size hk.size, h.hd, h.hm, h.hg, hd', hl'⟩, h2, h3⟩⟩
/-- A broken log takes nothing any more. -/
theorem commit_broken_any (h : At w0 B w d m g rv S L) (hO : S.Ok) (hb : L.broken = true) (hl : L.recs.length ≤ 1000000 ∧ L.groups ≤ 1000000 ∧ L.size ≤ 1000000) (l : List ByteArray) (v : Value) (hv : Strs w v l) (hvk : ∀ W rv', Keeps d m g rv rv' w W → Strs W v l) (hf : Fits (raw l)) :
    Calls Tryz.prog 13 #[.pointer (some ⟨g, 0, none⟩), v] w fun e w' => ∃ rv', e = .returned (.int .i64 14) ∧ At w0 B w' d m g rv' S L ∧ Keeps d m g rv rv' w w' := by
  have hcc := commit_any hO h.disk h.log l v hv hvk (fits_raw hf).1 hl.1 hl.2.1 hl.2.2 h.size (fits_raw hf).2
  rw [show S.commit L (raw l) = (14, S, L) by unfold St.commit; rw [if_pos hb]] at hcc
  refine hcc.mono ?_
  rintro e w' ⟨he, hd', rv', hl', hk⟩
  exact ⟨rv', he, ⟨hk.below h.below h.size h.hd h.hm h.hg (fun k q => (h.log.row k q).1), Nat.le_trans h.size hk.size, h.hd, h.hm, h.hg, hd', hl'⟩, hk⟩
end

/-! ### A log that has just the groups gs -/
def bytesOf (gs : List (List (List UInt8))) : ByteArray := ⟨(logBytes gs).toArray⟩
def logOf (name : ByteArray) (gs : List (List (List UInt8))) : LSt := ⟨name, gs.flatten, gs.length, (logBytes gs).length, false⟩
/-- A group more; of no records it is none. -/
def addGroup (gs : List (List (List UInt8))) (l : List (List UInt8)) : List (List (List UInt8)) := if l = [] then gs else gs ++ [l]
theorem flatten_add (gs : List (List (List UInt8))) (l : List (List UInt8)) : (addGroup gs l).flatten = gs.flatten ++ l := by
  unfold addGroup
  split
  · rename_i h; rw [h, List.append_nil]
  · rw [List.flatten_append]; simp
theorem bytesOf_size (gs : List (List (List UInt8))) : (bytesOf gs).size = (logBytes gs).length := by rw [Lib.size_eq]; rfl
theorem bytesOf_nil : bytesOf [] = ByteArray.empty := rfl
theorem bytesOf_snoc (gs : List (List (List UInt8))) (g : List (List UInt8)) : bytesOf (gs ++ [g]) = bytesOf gs ++ ⟨(groupBytes g).toArray⟩ := by
  unfold bytesOf
  rw [logBytes_snoc, ByteArray.mk_append_mk]
theorem extract_bytes (gs : List (List (List UInt8))) (t : List UInt8) : (bytesOf gs ++ ⟨t.toArray⟩).extract 0 (logBytes gs).length = bytesOf gs := by
  apply ByteArray.ext
  rw [← Array.toList_inj, Lib.extract_data, ByteArray.data_append]
  simp [bytesOf]

theorem groupBytes_len (l : List (List UInt8)) : (groupBytes l).length = (l.map fun s => s.length + 9).sum + ((varint (2 * l.length)).length + 9) := by
  have key : ∀ (m : List (List UInt8)), (frames (m.map (114 :: ·))).length = (m.map fun s => s.length + 9).sum := by
    intro m
    induction m with
    | nil => rfl
    | cons s m ih =>
      simp only [List.map_cons, frames, List.length_append, frame_length, List.length_cons, List.sum_cons]
      rw [ih]
  unfold groupBytes
  rw [frames_append, List.length_append, frames_one, frame_length, List.length_cons, key]

structure Live (w0 : World) (B : Nat) (w : World) (d m g : Nat) (rv : Value) (S : St) (name : ByteArray) (gs : List (List (List UInt8))) : Prop where
  here : At w0 B w d m g rv S (logOf name gs)
  uno : ∃ sy, Uno S name (bytesOf gs) sy
  calm : Calm S
  fits : ∀ x ∈ gs, Fits x
  few : gs.flatten.length ≤ 1000000 ∧ gs.length ≤ 1000000

theorem Live.later {w0 w w' : World} {B d m g : Nat} {rv : Value} {S : St} {name : ByteArray} {gs : List (List (List UInt8))} (h : Live w0 B w d m g rv S name gs) (hb : Below w.heap.size w w') : Live w0 B w' d m g rv S name gs := ⟨h.here.later hb, h.uno, h.calm, h.fits, h.few⟩
theorem Live.small {w0 w : World} {B d m g : Nat} {rv : Value} {S : St} {name : ByteArray} {gs : List (List (List UInt8))} (h : Live w0 B w d m g rv S name gs) : Small (logOf name gs) := by
  obtain ⟨sy, hu⟩ := h.uno
  have := hu.size.2.1
  rw [bytesOf_size] at this
  exact ⟨rfl, h.few.1, h.few.2, by show (logBytes gs).length ≤ _; omega⟩

section
variable {w0 w : World} {B d m g : Nat} {rv : Value} {S : St} {name : ByteArray} {gs : List (List (List UInt8))}

theorem live_fresh (hB : B ≤ w.heap.size) (hb : Below B w0 w) (hd : B ≤ d) (hm : B ≤ m) (h : IsDisk w d m St.new) (name : ByteArray) (hv : validB name = true) :
    Calls Tryz.prog 12 #[.pointer (some ⟨d, 0, none⟩), .string name] w fun e w' => ∃ g rv S, e = .returned (.tuple #[.pointer (some ⟨g, 0, none⟩), .int .i64 0]) ∧ Live w0 B w' d m g rv S name [] :=
  (open_fresh_any hB hb hd hm h name hv).mono fun _ _ ⟨g, rv, S, he, ha, hu, hc⟩ => ⟨g, rv, S, he, ha, ⟨0, hu⟩, hc, (fun _ h => by cases h), by decide⟩

theorem live_commit (h : Live w0 B w d m g rv S name gs) (l : List ByteArray) (v : Value) (hv : Strs w v l) (hvk : ∀ W rv', Keeps d m g rv rv' w W → Strs W v l) (hf : Fits (raw l)) (hx : (logBytes gs).length + (groupBytes (raw l)).length ≤ 400000) (hfew : gs.flatten.length + l.length ≤ 1000000 ∧ gs.length + 1 ≤ 1000000) :
    Calls Tryz.prog 13 #[.pointer (some ⟨g, 0, none⟩), v] w fun e w' => ∃ rv' S', e = .returned (.int .i64 0) ∧ Live w0 B w' d m g rv' S' name (addGroup gs (raw l)) ∧ Keeps d m g rv rv' w w' := by
  obtain ⟨sy, hu⟩ := h.uno
  have hrl : (raw l).length = l.length := List.length_map ..
  by_cases hl : l = []
  · subst hl
    refine (commit_none_any h.here hu.ok h.small v hv hvk).mono ?_
    rintro e w' ⟨rv', he, ha, hk⟩
    exact ⟨rv', S, he, ⟨by rw [show addGroup gs (raw []) = gs from if_pos rfl]; exact ha, ⟨sy, by rw [show addGroup gs (raw []) = gs from if_pos rfl]; exact hu⟩, h.calm, by rw [show addGroup gs (raw []) = gs from if_pos rfl]; exact h.fits, by rw [show addGroup gs (raw []) = gs from if_pos rfl]; exact h.few⟩, hk⟩
  · have hne : raw l ≠ [] := by intro q; apply hl; have h1 := congrArg List.length q; rw [hrl] at h1; exact List.eq_nil_of_length_eq_zero h1
    have hadd : addGroup gs (raw l) = gs ++ [raw l] := if_neg hne
    rw [hadd]
    refine (commit_calm_any h.here hu h.calm h.small l v hv hvk hf hl (by rw [bytesOf_size]; exact hx)).mono ?_
    rintro e w' ⟨rv', S', he, ha, hu', hc', hk⟩
    refine ⟨rv', S', he, ⟨?_, ⟨_, by rw [bytesOf_snoc]; exact hu'⟩, hc', ?_, ?_⟩, hk⟩
    · have e1 : logOf name (gs ++ [raw l]) = { logOf name gs with recs := (logOf name gs).recs ++ raw l, groups := (logOf name gs).groups + 1, size := (logOf name gs).size + (groupBytes (raw l)).length } := by
        unfold logOf
        simp [logBytes_snoc]
      rw [e1]; exact ha
    · intro x hx
      rcases List.mem_append.1 hx with h1 | h1
      · exact h.fits x h1
      · obtain rfl := List.mem_singleton.1 h1; exact hf
    · rw [List.flatten_append, List.length_append, List.length_append]
      simp only [List.flatten_cons, List.flatten_nil, List.append_nil, List.length_cons, List.length_nil, hrl]
      omega

/-- Opened anew: just the groups, whatever stands behind them that is no group. -/
theorem live_open {sy : Nat} (t : List UInt8) (hB : B ≤ w.heap.size) (hb : Below B w0 w) (hd : B ≤ d) (hm : B ≤ m) (h : IsDisk w d m S) (hu : Uno S name (bytesOf gs ++ ⟨t.toArray⟩) sy) (hc : Calm S) (hv : validB name = true) (hs : name.size ≤ 39)
    (hf : ∀ x ∈ gs, Fits x) (hfew : gs.flatten.length ≤ 1000000 ∧ gs.length ≤ 1000000) (hg : goodOf (logBytes gs ++ t) = (gs.flatten, gs.length, (logBytes gs).length)) (hp : 2 * (logBytes gs).length + t.length ≤ 400000) :
    Calls Tryz.prog 12 #[.pointer (some ⟨d, 0, none⟩), .string name] w fun e w' => ∃ g rv S', e = .returned (.tuple #[.pointer (some ⟨g, 0, none⟩), .int .i64 0]) ∧ Live w0 B w' d m g rv S' name gs ∧ Only d m w w' ∧ w.heap.size ≤ g ∧ (∀ k, rv.ownBlock = some k → w.heap.size ≤ k) := by
  have hdat : (bytesOf gs ++ ⟨t.toArray⟩ : ByteArray).data.toList = logBytes gs ++ t := by rw [ByteArray.data_append]; simp [bytesOf]
  have hsz : (bytesOf gs ++ ⟨t.toArray⟩ : ByteArray).size = (logBytes gs).length + t.length := by rw [Lib.size_eq, hdat, List.length_append]
  refine (open_again_any (r := gs.flatten) (n := gs.length) (z := (logBytes gs).length) hB hb hd hm h hu hc hv hs (by rw [hdat]; exact hg) (by rw [hsz]; omega) (by rw [hsz]; omega)).mono ?_
  rintro e w' ⟨g, rv, S', sy', he, ha, hu', hc', ho, hg', hr⟩
  rw [extract_bytes] at hu'
  exact ⟨g, rv, S', he, ⟨ha, ⟨sy', hu'⟩, hc', hf, hfew⟩, ho, hg', hr⟩
theorem live_reopen (h : Live w0 B w d m g rv S name gs) (hv : validB name = true) (hs : name.size ≤ 39) (hp : 2 * (logBytes gs).length ≤ 400000) :
    Calls Tryz.prog 12 #[.pointer (some ⟨d, 0, none⟩), .string name] w fun e w' => ∃ g rv S', e = .returned (.tuple #[.pointer (some ⟨g, 0, none⟩), .int .i64 0]) ∧ Live w0 B w' d m g rv S' name gs ∧ Only d m w w' ∧ w.heap.size ≤ g ∧ (∀ k, rv.ownBlock = some k → w.heap.size ≤ k) := by
  obtain ⟨sy, hu⟩ := h.uno
  exact live_open (gs := gs) (sy := sy) [] h.here.size h.here.below h.here.hd h.here.hm h.here.disk (by rw [show (⟨([] : List UInt8).toArray⟩ : ByteArray) = ByteArray.empty from rfl, ByteArray.append_empty]; exact hu) h.calm hv hs h.fits h.few (good_tail gs h.fits [] (by simp)) (by simp; omega)

theorem live_records (h : Live w0 B w d m g rv S name gs) : Calls Tryz.prog 14 #[.pointer (some ⟨g, 0, none⟩)] w fun e w' => ∃ v recs, e = .returned v ∧ raw recs = gs.flatten ∧ Texts w' w.heap.size v recs ∧ Below w.heap.size w w' :=
  records_any w h.here.log h.few.1
theorem live_groups (h : Live w0 B w d m g rv S name gs) : Calls Tryz.prog 15 #[.pointer (some ⟨g, 0, none⟩)] w fun e w' => e = .returned (.int .i64 (gs.length : Int)) ∧ w = w' := groups_any w h.here.log
theorem live_size (h : Live w0 B w d m g rv S name gs) : Calls Tryz.prog 16 #[.pointer (some ⟨g, 0, none⟩)] w fun e w' => e = .returned (.int .i64 ((logBytes gs).length : Int)) ∧ w = w' := size_log w h.here.log
end

end Go.Proofs.YtncpeaamfmfcgaaGreat
