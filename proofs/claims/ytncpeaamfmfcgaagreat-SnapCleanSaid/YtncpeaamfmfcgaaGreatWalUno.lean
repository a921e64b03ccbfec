/- A disk with one file, a log's: what the log's operations do to it. -/
import Derived.Test.YtncpeaamfmfcgaaGreatWalCommit
import Derived.Test.YtncpeaamfmfcgaaGreatWalPlain
namespace Go.Proofs.YtncpeaamfmfcgaaGreat
open Go.RowKit Go.Proofs.YtncpeaamfmfcgaaGreat.Sum

/-- A disk with one file. -/
structure Uno (S : St) (s data : ByteArray) (sy : Nat) : Prop where
  ok : S.Ok
  files : ∃ b, S.files = [⟨s, data, sy, b⟩]
/-- There is power, and no fuse. -/
structure Calm (S : St) : Prop where
  on : S.on = true
  fused : S.fused = false

theorem Uno.has {S : St} {s data : ByteArray} {sy : Nat} (h : Uno S s data sy) : has S.files s = true := by
  obtain ⟨b, hb⟩ := h.files; rw [hb]; simp [Proofs.YtncpeaamfmfcgaaGreat.has]
theorem Uno.read {S : St} {s data : ByteArray} {sy : Nat} (h : Uno S s data sy) : readData S.files s = data := by
  obtain ⟨b, hb⟩ := h.files; rw [hb]; simp [readData, fileOf]
theorem Uno.size {S : St} {s data : ByteArray} {sy : Nat} (h : Uno S s data sy) : sizeAll S.files = data.size ∧ data.size ≤ 400000 ∧ sy ≤ data.size := by
  obtain ⟨b, hb⟩ := h.files
  have h1 := h.ok.room
  have h2 := h.ok.synced ⟨s, data, sy, b⟩ (by rw [hb]; simp)
  rw [hb] at h1 ⊢
  exact ⟨by simp [sizeAll], by simpa [sizeAll] using h1, h2⟩
theorem Uno.names {S : St} {s data : ByteArray} {sy : Nat} (h : Uno S s data sy) : namesOf S.files = [s] := by
  obtain ⟨b, hb⟩ := h.files; rw [hb]; exact namesOf_single _
theorem Uno.setOn {S : St} {s data : ByteArray} {sy : Nat} (h : Uno S s data sy) (b : Bool) : Uno { S with on := b } s data sy := ⟨h.ok.setOn b, h.files⟩
theorem Uno.setFuse {S : St} {s data : ByteArray} {sy : Nat} (h : Uno S s data sy) (n : Int) (hn : -9223372036854775808 ≤ n ∧ n ≤ 9223372036854775807) : Uno { S with fused := decide (0 ≤ n), left := n } s data sy := ⟨h.ok.setFuse n hn, h.files⟩

theorem Calm.fails {S : St} (h : Calm S) : S.fails = false := by unfold St.fails; rw [h.fused]; rfl
theorem Calm.op {S : St} (h : Calm S) : Calm S.op := ⟨by show (S.on && !(S.fused && _)) = true; rw [h.on, h.fused]; rfl, by show (S.fused && _) = false; rw [h.fused]; rfl⟩

/-! ### Append, Sync -/
theorem append_state {S : St} {s data : ByteArray} {sy : Nat} (h : Uno S s data sy) (x : ByteArray) (hon : S.on = true) (hx : data.size + x.size ≤ 400000) :
    S.append s x = (if S.fails then 14 else 0, { S.op with files := upd S.op.files s (appFE x) }) ∧ Uno (S.append s x).2 s (data ++ x) sy := by
  have he : appErr S s x = 0 := by unfold appErr; rw [h.has, if_pos rfl, if_pos (by rw [h.size.1]; exact hx)]
  have h1 : S.append s x = (if S.fails then 14 else 0, { S.op with files := upd S.op.files s (appFE x) }) := by
    unfold St.append
    rw [if_pos hon, he]
    cases S.fails <;> rfl
  refine ⟨h1, h.ok.append s x, ?_⟩
  rw [h1]
  obtain ⟨b, hb⟩ := h.files
  refine ⟨b, ?_⟩
  show upd S.files s (appFE x) = _
  rw [hb]; simp [upd, appFE]
theorem sync_state {S : St} {s data : ByteArray} {sy : Nat} (h : Uno S s data sy) (hon : S.on = true) :
    (S.fails = false → (S.sync s).1 = 0 ∧ Uno (S.sync s).2 s data data.size ∧ (S.sync s).2.on = S.op.on ∧ (S.sync s).2.fused = S.op.fused ∧ (S.sync s).2.left = S.op.left) ∧
    (S.fails = true → (S.sync s).1 = 14 ∧ Uno (S.sync s).2 s data sy ∧ (S.sync s).2.on = false) := by
  refine ⟨fun hf => ?_, fun hf => ?_⟩
  · have h1 : S.sync s = (0, { S.op with files := upd S.op.files s syncFE }) := does_ok hon hf (lackErr_true h.has)
    refine ⟨by rw [h1], ⟨h.ok.sync s, ?_⟩, by rw [h1], by rw [h1], by rw [h1]⟩
    rw [h1]
    obtain ⟨b, hb⟩ := h.files
    refine ⟨b, ?_⟩
    show upd S.files s syncFE = _
    rw [hb]; simp [upd, syncFE]
  · have h1 : S.sync s = (14, S.op) := does_fails hon hf
    refine ⟨by rw [h1], ⟨h.ok.sync s, ?_⟩, ?_⟩
    · rw [h1]; exact h.files
    · rw [h1]
      show (S.on && !(S.fused && !decide (0 < S.left))) = false
      have : (S.fused && !decide (0 < S.left)) = true := hf
      rw [this]; simp

theorem append_calm {S : St} {s data : ByteArray} {sy : Nat} (h : Uno S s data sy) (hc : Calm S) (x : ByteArray) (hx : data.size + x.size ≤ 400000) :
    (S.append s x).1 = 0 ∧ Uno (S.append s x).2 s (data ++ x) sy ∧ Calm (S.append s x).2 := by
  obtain ⟨h1, h2⟩ := append_state h x hc.on hx
  refine ⟨by rw [h1, hc.fails]; rfl, h2, ?_⟩
  rw [h1]; exact ⟨hc.op.on, hc.op.fused⟩
theorem sync_calm {S : St} {s data : ByteArray} {sy : Nat} (h : Uno S s data sy) (hc : Calm S) :
    (S.sync s).1 = 0 ∧ Uno (S.sync s).2 s data data.size ∧ Calm (S.sync s).2 := by
  obtain ⟨h1, h2, h3, h4, -⟩ := (sync_state h hc.on).1 hc.fails
  exact ⟨h1, h2, h3.trans hc.op.on, h4.trans hc.op.fused⟩

/-! ### Commit -/
theorem commitRun_calm {S : St} {s data : ByteArray} {sy : Nat} (h : Uno S s data sy) (hc : Calm S) (g : List (List UInt8)) (hx : data.size + (groupBytes g).length ≤ 400000) :
    (S.commitRun s g).1 = 0 ∧ Uno (S.commitRun s g).2 s (data ++ ⟨(groupBytes g).toArray⟩) (data.size + (groupBytes g).length) ∧ Calm (S.commitRun s g).2 := by
  have hbs : (⟨(groupBytes g).toArray⟩ : ByteArray).size = (groupBytes g).length := by rw [Lib.size_eq]
  obtain ⟨a1, a2, a3⟩ := append_calm h hc ⟨(groupBytes g).toArray⟩ (by rw [hbs]; exact hx)
  obtain ⟨b1, b2, b3⟩ := sync_calm a2 a3
  have e : S.commitRun s g = (((S.append s ⟨(groupBytes g).toArray⟩).2).sync s) := by
    unfold St.commitRun runSteps
    rw [if_pos a1]
    unfold runSteps
    rw [if_pos b1]
    unfold runSteps
    exact Prod.ext b1.symm rfl
  rw [e]
  refine ⟨b1, ?_, b3⟩
  rw [ByteArray.size_append, hbs] at b2
  exact b2

theorem commit_calm {S : St} {L : LSt} {data : ByteArray} {sy : Nat} (h : Uno S L.name data sy) (hc : Calm S) (hb : L.broken = false) (g : List (List UInt8)) (hg : Fits g) (hne : g ≠ []) (hx : data.size + (groupBytes g).length ≤ 400000) :
    ∃ T, S.commit L g = (0, T, { L with recs := L.recs ++ g, groups := L.groups + 1, size := L.size + (groupBytes g).length }) ∧ Uno T L.name (data ++ ⟨(groupBytes g).toArray⟩) (data.size + (groupBytes g).length) ∧ Calm T := by
  obtain ⟨h1, h2, h3⟩ := commitRun_calm h hc g hx
  refine ⟨_, ?_, h2, h3⟩
  unfold St.commit
  have hl : longR g = false := by
    unfold longR
    rw [List.any_eq_false]
    intro s hs
    have := hg.2 s hs
    simp; omega
  rw [if_neg (by simp [hb]), if_neg (by simp [hl]), if_neg hne, if_pos h1]
theorem commit_none {S : St} {L : LSt} (hb : L.broken = false) : S.commit L [] = (0, S, L) := by
  unfold St.commit
  rw [if_neg (by simp [hb]), if_neg (by simp [longR]), if_pos rfl]

/-! ### The power fails -/
theorem commit_fuse {S : St} {L : LSt} {data : ByteArray} {sy : Nat} (h : Uno S L.name data sy) (hon : S.on = true) (hb : L.broken = false) (g : List (List UInt8)) (hg : Fits g) (hne : g ≠ []) (hx : data.size + (groupBytes g).length ≤ 400000) :
    (∃ T, S.commit L g = (0, T, { L with recs := L.recs ++ g, groups := L.groups + 1, size := L.size + (groupBytes g).length }) ∧ Uno T L.name (data ++ ⟨(groupBytes g).toArray⟩) (data.size + (groupBytes g).length) ∧ T.on = true ∧ (S.fused = true → 2 ≤ S.left)) ∨
    (∃ T, S.commit L g = (14, T, { L with broken := true }) ∧ Uno T L.name (data ++ ⟨(groupBytes g).toArray⟩) sy ∧ T.on = false) := by
  have hbs : (⟨(groupBytes g).toArray⟩ : ByteArray).size = (groupBytes g).length := by rw [Lib.size_eq]
  obtain ⟨a1, a2⟩ := append_state h ⟨(groupBytes g).toArray⟩ hon (by rw [hbs]; exact hx)
  have hl : longR g = false := by
    unfold longR
    rw [List.any_eq_false]
    intro s hs
    have := hg.2 s hs
    simp; omega
  have hopon : S.op.on = !S.fails := by show (S.on && !(S.fused && _)) = _; rw [hon]; rfl
  have hcom : ∀ r, S.commitRun L.name g = r → S.commit L g = if r.1 = 0 then (0, r.2, { L with recs := L.recs ++ g, groups := L.groups + 1, size := L.size + (groupBytes g).length }) else (r.1, r.2, { L with broken := true }) := by
    rintro r rfl
    unfold St.commit
    rw [if_neg (by simp [hb]), if_neg (by simp [hl]), if_neg hne]
  cases hf : S.fails
  · have e1 : (S.append L.name ⟨(groupBytes g).toArray⟩).1 = 0 := by rw [a1, hf]; rfl
    have hon2 : (S.append L.name ⟨(groupBytes g).toArray⟩).2.on = true := by rw [a1]; show S.op.on = true; rw [hopon, hf]; rfl
    have e : S.commitRun L.name g = if (((S.append L.name ⟨(groupBytes g).toArray⟩).2).sync L.name).1 = 0 then (0, (((S.append L.name ⟨(groupBytes g).toArray⟩).2).sync L.name).2) else ((S.append L.name ⟨(groupBytes g).toArray⟩).2).sync L.name := by
      unfold St.commitRun runSteps
      rw [if_pos e1]
      unfold runSteps
      rfl
    cases hf2 : (S.append L.name ⟨(groupBytes g).toArray⟩).2.fails
    · obtain ⟨b1, b2, b3, -⟩ := (sync_state a2 hon2).1 hf2
      rw [if_pos b1] at e
      refine .inl ⟨_, (hcom _ e).trans (if_pos rfl), ?_, ?_⟩
      · rw [ByteArray.size_append, hbs] at b2; exact b2
      · refine ⟨?_, fun hfu => ?_⟩
        · rw [b3]
          show ((S.append L.name ⟨(groupBytes g).toArray⟩).2.on && !(S.append L.name ⟨(groupBytes g).toArray⟩).2.fails) = true
          rw [hon2, hf2]; rfl
        · have h0 : 0 < S.left := by
            have : (S.fused && !decide (0 < S.left)) = false := hf
            rw [hfu] at this
            simpa using this
          have hop : (S.append L.name ⟨(groupBytes g).toArray⟩).2.fused = true ∧ (S.append L.name ⟨(groupBytes g).toArray⟩).2.left = S.left - 1 := by
            rw [a1]
            refine ⟨?_, ?_⟩
            · show (S.fused && decide (0 < S.left)) = true
              rw [hfu, decide_eq_true h0]; rfl
            · show (if S.fused = true ∧ 0 < S.left then S.left - 1 else S.left) = _
              rw [if_pos ⟨hfu, h0⟩]
          have : ((S.append L.name ⟨(groupBytes g).toArray⟩).2.fused && !decide (0 < (S.append L.name ⟨(groupBytes g).toArray⟩).2.left)) = false := hf2
          rw [hop.1, hop.2] at this
          have h1 : 0 < S.left - 1 := by simpa using this
          omega
    · obtain ⟨b1, b2, b3⟩ := (sync_state a2 hon2).2 hf2
      rw [if_neg (by rw [b1]; decide)] at e
      refine .inr ⟨_, (hcom _ e).trans ?_, b2, b3⟩
      rw [b1]; rfl
  · have e1 : (S.append L.name ⟨(groupBytes g).toArray⟩).1 = 14 := by rw [a1, hf]; rfl
    have e : S.commitRun L.name g = S.append L.name ⟨(groupBytes g).toArray⟩ := by
      unfold St.commitRun runSteps
      rw [if_neg (by rw [e1]; decide)]
    refine .inr ⟨_, (hcom _ e).trans ?_, a2, ?_⟩
    · rw [e1]; rfl
    · rw [a1]; show S.op.on = false; rw [hopon, hf]; rfl

/-! ### The power is taken, and given again -/
theorem crash_state {S : St} {s data : ByteArray} {sy : Nat} (h : Uno S s data sy) (keep : List Int) :
    ∃ j, sy ≤ j ∧ j ≤ data.size ∧ Uno { S.crash keep with on := true } s (data.extract 0 j) j ∧ Calm { S.crash keep with on := true } := by
  obtain ⟨b, hb⟩ := h.files
  refine ⟨sy + keptAt keep 0 ⟨s, data, sy, b⟩, Nat.le_add_right _ _, keptAt_le keep 0 ⟨s, data, sy, b⟩ h.size.2.2, ⟨(h.ok.crash keep).setOn true, b, ?_⟩, rfl, rfl⟩
  show crashAll keep (namesOf S.files) 0 S.files = _
  rw [h.names, hb]
  simp [crashAll, upd, crashFE]

/-! ### Open -/
theorem open_fresh {name : ByteArray} (hv : validB name = true) : ∃ T, St.new.openLog name = (0, T, some ⟨name, [], 0, 0, false⟩) ∧ Uno T name ByteArray.empty 0 ∧ Calm T := by
  refine ⟨_, ?_, ⟨one_ok (s := name) (data := ByteArray.empty) (sy := 0) (n := 1) (of_decide_eq_true hv).2 (by decide) (by decide) (by decide), 0, rfl⟩, rfl, rfl⟩
  unfold St.openLog
  rw [if_pos (by rfl), if_neg (by simp [Proofs.YtncpeaamfmfcgaaGreat.has, St.new]), one_create hv, if_pos rfl]

theorem open_good {S : St} {name data : ByteArray} {sy : Nat} (h : Uno S name data sy) (hc : Calm S) {r : List (List UInt8)} {n : Nat} (hg : goodOf data.data.toList = (r, n, data.size)) : S.openLog name = (0, S, some ⟨name, r, n, data.size, false⟩) := by
  unfold St.openLog
  rw [if_pos hc.on, if_pos h.has, h.read, hg, if_neg (Nat.lt_irrefl _)]

/-! ### mend -/
/-- A disk with a log's file and its spare. -/
structure Duo (S : St) (s data : ByteArray) (sy : Nat) (t x : ByteArray) (y : Nat) : Prop where
  ok : S.Ok
  files : ∃ b c, S.files = [⟨s, data, sy, b⟩, ⟨t, x, y, c⟩]
theorem spare_ne (name : ByteArray) : name ≠ spareOf name := by
  intro h
  have := congrArg ByteArray.size h
  unfold spareOf at this
  rw [ByteArray.size_append] at this
  have e : (⟨#[126]⟩ : ByteArray).size = 1 := rfl
  omega
theorem create_duo {S : St} {s data : ByteArray} {sy : Nat} {t : ByteArray} (h : Uno S s data sy) (hc : Calm S) (hv : validB t = true) (hne : s ≠ t) : (S.create t).1 = 0 ∧ Duo (S.create t).2 s data sy t ByteArray.empty 0 ∧ Calm (S.create t).2 := by
  obtain ⟨b, hb⟩ := h.files
  have he : createErr S t = 0 := by
    unfold createErr
    rw [hv, if_pos rfl, hb]
    simp [Proofs.YtncpeaamfmfcgaaGreat.has, hne]
  have h1 : S.create t = (0, _) := does_ok hc.on hc.fails he
  refine ⟨by rw [h1], ⟨h.ok.create t, b, S.op.clock, ?_⟩, ?_⟩
  · rw [h1]
    show S.files ++ [newFE t S.op.clock] = _
    rw [hb]; rfl
  · rw [h1]; exact ⟨hc.op.on, hc.op.fused⟩
theorem append_duo {S : St} {s data t x z : ByteArray} {sy y : Nat} (h : Duo S s data sy t x y) (hc : Calm S) (hne : s ≠ t) (hz : data.size + (x.size + z.size) ≤ 400000) : (S.append t z).1 = 0 ∧ Duo (S.append t z).2 s data sy t (x ++ z) y ∧ Calm (S.append t z).2 := by
  obtain ⟨b, c, hb⟩ := h.files
  have he : appErr S t z = 0 := by
    unfold appErr
    rw [hb, if_pos (by simp [Proofs.YtncpeaamfmfcgaaGreat.has]), if_pos (by simp [sizeAll]; omega)]
  have h1 : S.append t z = (0, { S.op with files := upd S.op.files t (appFE z) }) := by
    unfold St.append
    rw [if_pos hc.on, he, hc.fails]; rfl
  refine ⟨by rw [h1], ⟨h.ok.append t z, b, c, ?_⟩, ?_⟩
  · rw [h1]
    show upd S.files t (appFE z) = _
    rw [hb]; simp [upd, appFE, hne]
  · rw [h1]; exact ⟨hc.op.on, hc.op.fused⟩
theorem sync_duo {S : St} {s data t x : ByteArray} {sy y : Nat} (h : Duo S s data sy t x y) (hc : Calm S) (hne : s ≠ t) : (S.sync t).1 = 0 ∧ Duo (S.sync t).2 s data sy t x x.size ∧ Calm (S.sync t).2 := by
  obtain ⟨b, c, hb⟩ := h.files
  have h1 : S.sync t = (0, { S.op with files := upd S.op.files t syncFE }) := does_ok hc.on hc.fails (lackErr_true (by rw [hb]; simp [Proofs.YtncpeaamfmfcgaaGreat.has]))
  refine ⟨by rw [h1], ⟨h.ok.sync t, b, c, ?_⟩, ?_⟩
  · rw [h1]
    show upd S.files t syncFE = _
    rw [hb]; simp [upd, syncFE, hne]
  · rw [h1]; exact ⟨hc.op.on, hc.op.fused⟩
theorem rename_duo {S : St} {s data t x : ByteArray} {sy y : Nat} (h : Duo S s data sy t x y) (hc : Calm S) (hne : s ≠ t) (hv : validB s = true) : (S.rename t s).1 = 0 ∧ Uno (S.rename t s).2 s x y ∧ Calm (S.rename t s).2 := by
  obtain ⟨b, c, hb⟩ := h.files
  have h1 : S.rename t s = (0, ren S.op t s) := does_ok hc.on hc.fails (by unfold renErr; rw [if_pos (by rw [hb]; simp [Proofs.YtncpeaamfmfcgaaGreat.has]), if_pos hv])
  have hf : fileOf S.op.files t = some ⟨t, x, y, c⟩ := by show fileOf S.files t = _; rw [hb]; simp [fileOf, hne]
  have hd : del S.op.files t = [⟨s, data, sy, b⟩] := by show del S.files t = _; rw [hb]; simp [del, hne]
  have hm : moved [⟨s, data, sy, b⟩] s ⟨t, x, y, c⟩ S.op.clock = ([⟨s, x, y, b⟩], S.op.clock) := by
    unfold moved
    rw [if_pos (by simp [Proofs.YtncpeaamfmfcgaaGreat.has])]
    simp [upd]
  have hr : ren S.op t s = { S.op with files := [⟨s, x, y, b⟩] } := by
    unfold ren
    rw [hf]
    simp only
    rw [hd, hm]
  refine ⟨by rw [h1], ⟨h.ok.rename t s, b, ?_⟩, ?_⟩
  · rw [h1, hr]
  · rw [h1, hr]; exact ⟨hc.op.on, hc.op.fused⟩

theorem runSteps_cons {f : St → Int × St} {fs : List (St → Int × St)} {S : St} (h : (f S).1 = 0) : runSteps (f :: fs) S = runSteps fs (f S).2 := if_pos h

theorem mend_calm {S : St} {name data part : ByteArray} {sy : Nat} (h : Uno S name data sy) (hc : Calm S) (hv : validB name = true) (hs : name.size ≤ 39) (hp : data.size + part.size ≤ 400000) :
    (S.mend name part).1 = 0 ∧ Uno (S.mend name part).2 name part part.size ∧ Calm (S.mend name part).2 := by
  have hne := spare_ne name
  have hvs : validB (spareOf name) = true := by
    unfold validB spareOf
    rw [ByteArray.size_append]
    exact decide_eq_true ⟨by show _ + 1 ≠ 0; omega, by show _ + 1 ≤ 40; omega⟩
  obtain ⟨b, hb⟩ := h.files
  have h0 : S.rmIf (spareOf name) = (0, S) := by
    unfold St.rmIf
    rw [if_neg (by rw [hb]; simp [Proofs.YtncpeaamfmfcgaaGreat.has, hne])]
  obtain ⟨a1, a2, a3⟩ := create_duo h hc hvs hne
  obtain ⟨b1, b2, b3⟩ := append_duo (z := part) a2 a3 hne (by show _ + (0 + _) ≤ _; omega)
  rw [show ByteArray.empty ++ part = part from ByteArray.empty_append] at b2
  obtain ⟨c1, c2, c3⟩ := sync_duo b2 b3 hne
  obtain ⟨d1, d2, d3⟩ := rename_duo c2 c3 hne hv
  have e : S.mend name part = ((((S.create (spareOf name)).2.append (spareOf name) part).2.sync (spareOf name)).2.rename (spareOf name) name) := by
    unfold St.mend
    refine (runSteps_cons (by show (S.rmIf (spareOf name)).1 = 0; rw [h0])).trans ?_
    show runSteps _ (S.rmIf (spareOf name)).2 = _
    rw [h0]
    refine (runSteps_cons (f := fun T => T.create (spareOf name)) a1).trans ?_
    refine (runSteps_cons (f := fun T => T.append (spareOf name) part) b1).trans ?_
    refine (runSteps_cons (f := fun T => T.sync (spareOf name)) c1).trans ?_
    refine (runSteps_cons (f := fun T => T.rename (spareOf name) name) d1).trans ?_
    exact Prod.ext d1.symm rfl
  rw [e]
  exact ⟨d1, d2, d3⟩

theorem open_mend {S : St} {name data : ByteArray} {sy : Nat} (h : Uno S name data sy) (hc : Calm S) (hv : validB name = true) (hs : name.size ≤ 39) {r : List (List UInt8)} {n z : Nat} (hg : goodOf data.data.toList = (r, n, z)) (hz : z < data.size) (hp : data.size + z ≤ 400000) :
    ∃ T, S.openLog name = (0, T, some ⟨name, r, n, z, false⟩) ∧ Uno T name (data.extract 0 z) z ∧ Calm T := by
  have hsz : (data.extract 0 z).size = z := by rw [ByteArray.size_extract]; omega
  obtain ⟨h1, h2, h3⟩ := mend_calm (part := data.extract 0 z) h hc hv hs (by rw [hsz]; exact hp)
  rw [hsz] at h2
  refine ⟨_, ?_, h2, h3⟩
  unfold St.openLog
  rw [if_pos hc.on, if_pos h.has, h.read, hg, if_pos hz, if_pos h1]

/-- A log's file with nothing, or with fewer good bytes than there are: opened, it is mended. -/
theorem open_any_good {S : St} {name data : ByteArray} {sy : Nat} (h : Uno S name data sy) (hc : Calm S) (hv : validB name = true) (hs : name.size ≤ 39) {r : List (List UInt8)} {n z : Nat} (hg : goodOf data.data.toList = (r, n, z)) (hz : z ≤ data.size) (hp : data.size + z ≤ 400000) :
    ∃ T sy', S.openLog name = (0, T, some ⟨name, r, n, z, false⟩) ∧ Uno T name (data.extract 0 z) sy' ∧ Calm T := by
  rcases Nat.lt_or_ge z data.size with hlt | hge
  · obtain ⟨T, h1, h2, h3⟩ := open_mend h hc hv hs hg hlt hp
    exact ⟨T, z, h1, h2, h3⟩
  · obtain rfl : z = data.size := by omega
    refine ⟨S, sy, open_good h hc hg, ?_, hc⟩
    rw [ByteArray.extract_zero_size]; exact h

end Go.Proofs.YtncpeaamfmfcgaaGreat
