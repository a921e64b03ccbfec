/- The calls of the store's laws. -/
import Derived.Test.YtncpeaamfmfcgaaGreatSnapPlain
import Derived.Test.YtncpeaamfmfcgaaGreatWalMore
namespace Go.Proofs.YtncpeaamfmfcgaaGreat
open Go.RowKit Go.Proofs.YtncpeaamfmfcgaaGreat.Sum

/-- A law's own disk. -/
structure DAt (w0 : World) (B : Nat) (w : World) (d m : Nat) (S : St) : Prop where
  below : Below B w0 w
  size : B ≤ w.heap.size
  hd : B ≤ d
  hm : B ≤ m
  disk : IsDisk w d m S
/-- A law's own disk and store. -/
structure SAt (w0 : World) (B : Nat) (w : World) (d m t g : Nat) (rv : Value) (S : St) (dir : ByteArray) (r : Nat) (base : ByteArray) (L : LSt) : Prop where
  here : At w0 B w d m g rv S L
  st : StoreAt w t (.pointer (some ⟨g, 0, none⟩)) (.pointer (some ⟨d, 0, none⟩)) dir r base false
  ht : B ≤ t
section
variable {w0 w w' : World} {B d m t g : Nat} {rv rv' : Value} {S : St} {dir base : ByteArray} {r : Nat} {L : LSt} {lv dv : Value} {br : Bool}
theorem DAt.later (h : DAt w0 B w d m S) (hb : Below w.heap.size w w') : DAt w0 B w' d m S := ⟨h.below.trans (hb.mono h.size), Nat.le_trans h.size hb.size, h.hd, h.hm, h.disk.later hb⟩
theorem DAt.only {S' : St} (h : DAt w0 B w d m S) (ho : Only d m w w') (hd : IsDisk w' d m S') : DAt w0 B w' d m S' := ⟨ho.below h.below h.size h.hd h.hm, Nat.le_trans h.size ho.size, h.hd, h.hm, hd⟩
theorem At.dat (h : At w0 B w d m g rv S L) : DAt w0 B w d m S := ⟨h.below, h.size, h.hd, h.hm, h.disk⟩
theorem SAt.dat (h : SAt w0 B w d m t g rv S dir r base L) : DAt w0 B w d m S := h.here.dat
theorem SAt.later (h : SAt w0 B w d m t g rv S dir r base L) (hb : Below w.heap.size w w') : SAt w0 B w' d m t g rv S dir r base L := ⟨h.here.later hb, h.st.later hb, h.ht⟩
theorem OnlyS.below (h : OnlyS d m t w w') (h0 : Below B w0 w) (hB : B ≤ w.heap.size) (hd : B ≤ d) (hm : B ≤ m) (ht : B ≤ t) : Below B w0 w' := h0.trans ⟨h.os, h.tape, h.output, h.size, fun k hk => h.block k (by omega) (by omega) (by omega) (by omega)⟩
theorem StoreAt.offLog {n z : Nat} {name : ByteArray} {lb : Bool} (h : StoreAt w t lv dv dir r base br) (hl : LogAt w g (.pointer (some ⟨d, 0, none⟩)) name rv n z lb) : t ≠ g := by
  rintro rfl
  have h' : w.heap[t]? = _ := h
  have h2 : w.heap[t]? = _ := hl
  rw [h'] at h2
  injection h2 with h2
  injection h2 with _ h3 _
  exact absurd h3 (by decide)
theorem StoreAt.offTexts {b : Nat} {v : Value} {l : List ByteArray} (h : StoreAt w t lv dv dir r base br) (ht : Texts w b v l) : v.ownBlock ≠ some t := by
  rcases ht.2 with ⟨rfl, -⟩ | ⟨g', cap, cur, rfl, -, hg, -⟩
  · intro h; cases h
  · intro hq
    injection hq with hq
    have hq : g' = t := hq
    subst hq
    have h' : w.heap[g']? = _ := h
    rw [h'] at hg
    injection hg with hg
    injection hg with _ h2 _
    exact absurd h2 (by decide)
theorem SAt.off (h : SAt w0 B w d m t g rv S dir r base L) : t ≠ d ∧ t ≠ m ∧ t ≠ g ∧ rv.ownBlock ≠ some t := by
  obtain ⟨recs, -, ht⟩ := h.here.log.rows
  exact ⟨(h.st.apart h.here.disk).1, (h.st.apart h.here.disk).2, h.st.offLog h.here.log.cells, h.st.offTexts ht⟩
theorem SAt.stKeeps (h : SAt w0 B w d m t g rv S dir r base L) (hk : Keeps d m g rv rv' w w') : StoreAt w' t (.pointer (some ⟨g, 0, none⟩)) (.pointer (some ⟨d, 0, none⟩)) dir r base false :=
  (hk.block t h.st.facts.2.2.2.2.2.2 h.off.1 h.off.2.1 h.off.2.2.1 h.off.2.2.2).trans h.st
/-- A row of texts stays, whatever a Save does. -/
theorem Texts.save {b : Nat} {v : Value} {l : List ByteArray} (h : Texts w b v l) (hs : SAt w0 B w d m t g rv S dir r base L) (ho : OnlyS d m t w w') : Texts w' b v l :=
  h.block fun q hq => ho.block q (h.lt q hq).2 (fun e => (h.apart hs.here.disk).1 (by rw [hq, e])) (fun e => (h.apart hs.here.disk).2 (by rw [hq, e])) (fun e => hs.st.offTexts h (by rw [hq, e]))

theorem openStore_round {U : St} {r' : Nat} {b' : ByteArray} {L' : LSt} (h : S.openStore dir = (0, U, some (r', b', L'))) : S.storeRound dir = r' := by
  have h := congrArg (fun o => o.2.2) h
  simp only at h
  have hrest : ∀ k b, (S.openRest dir k b).2.2 = some (r', b', L') → k = r' := by
    intro k b h
    unfold St.openRest at h
    split at h
    · cases h
    · split at h
      · injection h with h; injection h with h
      · cases h
  unfold St.openStore at h
  split at h
  · cases h
  · split at h
    · rename_i h0; rw [h0]; exact hrest _ _ h
    · split at h
      · cases h
      · split at h
        · cases h
        · split at h
          · exact hrest _ _ h
          · cases h

theorem sopen_any {U : St} (hA : DAt w0 B w d m S) (hO : S.Ok) (hdir : dir.size ≤ 20) (hr : r ≤ 100000) (ho : S.openStore dir = (0, U, some (r, base, L))) :
    Calls Tryz.prog 27 #[.pointer (some ⟨d, 0, none⟩), .string dir] w fun e w' => ∃ t g rv, e = .returned (.tuple #[.pointer (some ⟨t, 0, none⟩), .int .i64 0]) ∧ SAt w0 B w' d m t g rv U dir r base L ∧ Only d m w w' ∧ w.heap.size ≤ t ∧ w.heap.size ≤ g ∧ ∀ q, rv.ownBlock = some q → w.heap.size ≤ q := by
  have hrr := openStore_round ho
  refine (openStore_any dir w hO hA.disk (by omega) (by omega)).mono ?_
  rintro e w' ⟨h1, h2, h3⟩
  rw [ho] at h1 h3
  obtain ⟨t, g, rv, rfl, h4, h5, h6, h7, h8, h9⟩ := h3
  have hB := hA.size
  exact ⟨t, g, rv, rfl, ⟨⟨h2.below hA.below hA.size hA.hd hA.hm, Nat.le_trans hA.size h2.size, hA.hd, hA.hm, by omega, h1, h8.mono hB⟩, h7, by omega⟩, h2, h4, h5, fun q hq => (h8.row q hq).1⟩

theorem scommit {o : Int × St × LSt} (h : SAt w0 B w d m t g rv S dir r base L) (hO : S.Ok) (l : List ByteArray) (v : Value) (hv : Strs w v l) (hvk : ∀ W rv', Keeps d m g rv rv' w W → Strs W v l) (hf : Fits (raw l)) (hr : L.recs.length ≤ 1000000) (hg : L.groups ≤ 1000000) (hz : L.size ≤ 1000000) (ho : S.commit L (raw l) = o) :
    Calls Tryz.prog 32 #[.pointer (some ⟨t, 0, none⟩), v] w fun e w' => ∃ rv', e = .returned (.int .i64 o.1) ∧ SAt w0 B w' d m t g rv' o.2.1 dir r base o.2.2 ∧ Keeps d m g rv rv' w w' := by
  have hc := commit_any hO h.here.disk h.here.log l v hv hvk (fits_raw hf).1 hr hg hz h.here.size (fits_raw hf).2
  rw [ho] at hc
  refine (scommit_any w h.st (Q := fun x w' => x = o.1 ∧ ∃ rv', SAt w0 B w' d m t g rv' o.2.1 dir r base o.2.2 ∧ Keeps d m g rv rv' w w') (hc.mono ?_)).mono ?_
  · rintro e w' ⟨rfl, hd', rv', hl', hk⟩
    exact ⟨o.1, rfl, rfl, rv', ⟨⟨hk.below h.here.below h.here.size h.here.hd h.here.hm h.here.hg (fun k q => (h.here.log.row k q).1), Nat.le_trans h.here.size hk.size, h.here.hd, h.here.hm, h.here.hg, hd', hl'⟩, h.stKeeps hk, h.ht⟩, hk⟩
  · rintro e w' ⟨x, rfl, rfl, rv', h1, h2⟩
    exact ⟨rv', rfl, h1, h2⟩

theorem ssave_ok {T : St} {L' : LSt} (h : SAt w0 B w d m t g rv S dir r base L) (hO : S.Ok) (hdir : dir.size ≤ 1000) (hr : r ≤ 1000) (state : ByteArray) (hs : state.size ≤ 150000) (ho : S.save dir r (r + 1) state = (0, T, some L')) :
    Calls Tryz.prog 30 #[.pointer (some ⟨t, 0, none⟩), .string state] w fun e w' => ∃ g' rv', e = .returned (.int .i64 0) ∧ SAt w0 B w' d m t g' rv' T dir (r + 1) state L' ∧ OnlyS d m t w w' ∧ w.heap.size ≤ g' ∧ ∀ q, rv'.ownBlock = some q → w.heap.size ≤ q := by
  refine (save_any w hO h.here.disk h.st hdir (by omega) state hs).mono ?_
  rintro e w' ⟨h1, h2, h3⟩
  rw [ho] at h1 h3
  obtain ⟨g', rv', rfl, hg, hst, hl⟩ := h3
  have hB := h.here.size
  exact ⟨g', rv', rfl, ⟨⟨h2.below h.here.below h.here.size h.here.hd h.here.hm h.ht, Nat.le_trans hB h2.size, h.here.hd, h.here.hm, by omega, h1, hl.mono hB⟩, hst, h.ht⟩, h2, hg, fun q hq => (hl.row q hq).1⟩
theorem ssave_halt {T : St} {y : Int} (h : SAt w0 B w d m t g rv S dir r base L) (hO : S.Ok) (hdir : dir.size ≤ 1000) (hr : r ≤ 1000) (state : ByteArray) (hs : state.size ≤ 150000) (ho : S.save dir r (r + 1) state = (y, T, none)) :
    Calls Tryz.prog 30 #[.pointer (some ⟨t, 0, none⟩), .string state] w fun e w' => e = .returned (.int .i64 y) ∧ DAt w0 B w' d m T ∧ OnlyS d m t w w' := by
  refine (save_any w hO h.here.disk h.st hdir (by omega) state hs).mono ?_
  rintro e w' ⟨h1, h2, h3⟩
  rw [ho] at h1 h3
  obtain ⟨-, rfl, -⟩ := h3
  exact ⟨rfl, ⟨h2.below h.here.below h.here.size h.here.hd h.here.hm h.ht, Nat.le_trans h.here.size h2.size, h.here.hd, h.here.hm, h1⟩, h2⟩
end

/-! ### With power, and no fuse -/
structure SLive (w0 : World) (B : Nat) (w : World) (d m t g : Nat) (rv : Value) (S : St) (dir : ByteArray) (r : Nat) (base : ByteArray) (gs : List (List (List UInt8))) : Prop where
  at' : SAt w0 B w d m t g rv S dir r base (logOf (logName dir r) gs)
  kept : Kept S dir r base gs
  calm : Calm S
  few : gs.flatten.length ≤ 1000000 ∧ gs.length ≤ 1000000
section
variable {w0 w w' : World} {B d m t g : Nat} {rv rv' : Value} {S : St} {dir base : ByteArray} {r : Nat} {gs : List (List (List UInt8))}
theorem SLive.later (h : SLive w0 B w d m t g rv S dir r base gs) (hb : Below w.heap.size w w') : SLive w0 B w' d m t g rv S dir r base gs := ⟨h.at'.later hb, h.kept, h.calm, h.few⟩
theorem slive_new (hA : DAt w0 B w d m St.new) (hdir : 1 ≤ dir.size ∧ dir.size ≤ 20) :
    Calls Tryz.prog 27 #[.pointer (some ⟨d, 0, none⟩), .string dir] w fun e w' => ∃ t g rv S, e = .returned (.tuple #[.pointer (some ⟨t, 0, none⟩), .int .i64 0]) ∧ SLive w0 B w' d m t g rv S dir 0 ⟨#[]⟩ [] ∧ Full S.files := by
  obtain ⟨U, h1, h2, h3, h4⟩ := open_newStore hdir
  refine (sopen_any hA St.Ok.new hdir.2 (by omega) h1).mono ?_
  rintro e w' ⟨t, g, rv, rfl, hs, -⟩
  exact ⟨t, g, rv, U, rfl, ⟨hs, h3, h2, by decide⟩, h4⟩
theorem slive_open (h : DAt w0 B w d m S) (hk : Kept S dir r base gs) (hc : Calm S) (hdir : 1 ≤ dir.size ∧ dir.size ≤ 20) (hr : r ≤ 1000) (hbs : base.size ≤ 1000000) (hz : sizeAll S.files + (logBytes gs).length ≤ 400000) (hfew : gs.flatten.length ≤ 1000000 ∧ gs.length ≤ 1000000) :
    Calls Tryz.prog 27 #[.pointer (some ⟨d, 0, none⟩), .string dir] w fun e w' => ∃ t g rv U, e = .returned (.tuple #[.pointer (some ⟨t, 0, none⟩), .int .i64 0]) ∧ SLive w0 B w' d m t g rv U dir r base gs ∧ Only d m w w' ∧ w.heap.size ≤ t ∧ w.heap.size ≤ g ∧ ∀ q, rv.ownBlock = some q → w.heap.size ≤ q := by
  obtain ⟨U, h1, h2, h3⟩ := open_kept hc hk hdir hr hbs hz
  refine (sopen_any h hk.ok hdir.2 (by omega) h1).mono ?_
  rintro e w' ⟨t, g, rv, rfl, hs, ho, ht, hg, hq⟩
  exact ⟨t, g, rv, U, rfl, ⟨hs, h3, h2, hfew⟩, ho, ht, hg, hq⟩
theorem slive_commit (h : SLive w0 B w d m t g rv S dir r base gs) (l : List ByteArray) (v : Value) (hv : Strs w v l) (hvk : ∀ W rv', Keeps d m g rv rv' w W → Strs W v l) (hf : Fits (raw l)) (hne : l ≠ []) (hz : sizeAll S.files + (groupBytes (raw l)).length ≤ 400000) (hfew : gs.flatten.length + l.length ≤ 1000000 ∧ gs.length + 1 ≤ 1000000) :
    Calls Tryz.prog 32 #[.pointer (some ⟨t, 0, none⟩), v] w fun e w' => ∃ rv' T, e = .returned (.int .i64 0) ∧ SLive w0 B w' d m t g rv' T dir r base (gs ++ [raw l]) ∧ Keeps d m g rv rv' w w' := by
  have hrl : (raw l).length = l.length := List.length_map ..
  have hne' : raw l ≠ [] := by intro q; apply hne; have h1 := congrArg List.length q; rw [hrl] at h1; exact List.eq_nil_of_length_eq_zero h1
  obtain ⟨P, sy, b, hP, hF⟩ := h.kept.files
  have hzl : (logBytes gs).length ≤ 400000 := by
    have h1 := h.kept.ok.room
    rw [hF, sizeAll_append] at h1
    simp only [sizeAll, bytesOf_size] at h1
    omega
  rcases commit_run h.kept.ok h.calm.on hF (fun f hf => by rw [hP.names f hf]; exact pic_ne_log) (raw l) hf hne' hz with ⟨T, h1, h2, h3, h4, h5⟩ | ⟨T, -, -, -, h4, -⟩
  · refine (scommit h.at' h.kept.ok l v hv hvk hf h.few.1 h.few.2 (by show (logBytes gs).length ≤ _; omega) h1).mono ?_
    rintro e w' ⟨rv', rfl, hs, hk⟩
    refine ⟨rv', T, rfl, ⟨hs, ⟨h2, ⟨P, _, b, hP, h5⟩, fits_add h.kept.fits hf⟩, ⟨h3, h4 h.calm.fused⟩, ?_, ?_⟩, hk⟩
    · have h6 : ([raw l] : List (List (List UInt8))).flatten.length = l.length := by simp [hrl]
      rw [List.flatten_append, List.length_append]; omega
    · rw [List.length_append]; simp; omega
  · rw [h.calm.fused] at h4; cases h4
theorem slive_save (h : SLive w0 B w d m t g rv S dir r base gs) (hdir : dir.size ≤ 20) (hr : r ≤ 999) (state : ByteArray) (hs : state.size ≤ 150000) (hz : sizeAll S.files + (layBA state).size ≤ 400000) :
    Calls Tryz.prog 30 #[.pointer (some ⟨t, 0, none⟩), .string state] w fun e w' => ∃ g' rv' T, e = .returned (.int .i64 0) ∧ SLive w0 B w' d m t g' rv' T dir (r + 1) state [] ∧ OnlyS d m t w w' ∧ w.heap.size ≤ g' ∧ ∀ q, rv'.ownBlock = some q → w.heap.size ≤ q := by
  obtain ⟨P, sy, b, hP, hF⟩ := h.kept.files
  rcases save_run (n := r + 1) (state := state) h.kept.ok h.calm.on hdir (by omega) rfl hF rfl hP hz with ⟨T, b', c', h1, h2, h3, h4, h5⟩ | ⟨T, -, -, -, h4, -⟩
  · refine (ssave_ok h.at' h.kept.ok (by omega) (by omega) state hs h1).mono ?_
    rintro e w' ⟨g', rv', rfl, hs, ho, hg, hq⟩
    exact ⟨g', rv', T, rfl, ⟨hs, ⟨h2, ⟨[⟨picName dir (r + 1), layBA state, (layBA state).size, b'⟩], 0, c', .inr ⟨by omega, _, _, rfl⟩, h5⟩, by simp⟩, ⟨h3, h4 h.calm.fused⟩, by decide⟩, ho, hg, hq⟩
  · rw [h.calm.fused] at h4; cases h4
end

end Go.Proofs.YtncpeaamfmfcgaaGreat
