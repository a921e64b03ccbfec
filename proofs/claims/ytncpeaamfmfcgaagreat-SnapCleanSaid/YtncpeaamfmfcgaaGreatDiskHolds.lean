/- What holds of every disk holds behind every operation. -/
import Derived.Test.YtncpeaamfmfcgaaGreatDiskOne
namespace Go.Proofs.YtncpeaamfmfcgaaGreat
open Go.RowKit

theorem St.Ok.op {S : St} (h : S.Ok) : S.op.Ok := ⟨h.fits.op, h.apart, h.stamps, h.names, h.few, h.room, h.synced⟩
theorem does_holds {S : St} {e : Int} {f : St → St} (h : S.Ok) (hf : e = 0 → (f S.op).Ok) : (S.does e f).2.Ok := by
  unfold St.does
  split
  · split
    · exact h.op
    · split
      · rename_i he; exact hf he
      · exact h.op
  · exact h
theorem upd_length (l : List FE) (s : ByteArray) (g : FE → FE) : (upd l s g).length = l.length := by unfold upd; rw [List.length_map]
/-- Other bytes in a file, name and stamp as they were. -/
theorem upd_holds {S : St} (h : S.Ok) (s : ByteArray) (g : FE → FE) (hn : ∀ f, (g f).name = f.name) (hb : ∀ f, (g f).born = f.born) (hy : ∀ f ∈ S.files, (g f).synced ≤ (g f).data.size) (hr : sizeAll (upd S.files s g) ≤ 400000) : St.Ok { S with files := upd S.files s g } := by
  refine ⟨⟨h.fits.ops, h.fits.left⟩, h.apart.upd s g hn, ⟨fun f hf => ?_, ?_⟩, fun f hf => ?_, ?_, hr, fun f hf => ?_⟩
  · obtain ⟨x, hx, rfl⟩ := List.mem_map.1 hf
    have := h.stamps.old x hx
    show (if x.name = s then g x else x).born < S.clock
    split
    · rw [hb]; exact this
    · exact this
  · show ((upd S.files s g).map (·.born)).Nodup
    rw [upd_born _ _ _ hb]; exact h.stamps.once
  · obtain ⟨x, hx, rfl⟩ := List.mem_map.1 hf
    have := h.names x hx
    split
    · rw [hn]; exact this
    · exact this
  · show (upd S.files s g).length ≤ 40
    rw [upd_length]; exact h.few
  · obtain ⟨x, hx, rfl⟩ := List.mem_map.1 hf
    split
    · exact hy x hx
    · exact h.synced x hx

theorem del_size (l : List FE) (s : ByteArray) : sizeAll (del l s) ≤ sizeAll l := by
  unfold del
  induction l with
  | nil => exact Nat.le_refl _
  | cons f l ih =>
    rw [List.filter_cons]
    split
    · simp only [sizeAll]; omega
    · simp only [sizeAll]; omega
theorem del_holds {S : St} (h : S.Ok) (s : ByteArray) : St.Ok { S with files := del S.files s } := by
  have hm : ∀ f ∈ del S.files s, f ∈ S.files := fun f hf => (List.mem_filter.1 hf).1
  refine ⟨⟨h.fits.ops, h.fits.left⟩, h.apart.filter _, ⟨fun f hf => h.stamps.old f (hm f hf), ?_⟩, fun f hf => h.names f (hm f hf), Nat.le_trans (List.length_filter_le _ _) h.few, Nat.le_trans (del_size _ _) h.room, fun f hf => h.synced f (hm f hf)⟩
  exact List.Nodup.sublist (List.Sublist.map _ List.filter_sublist) h.stamps.once
theorem add_holds {S : St} (h : S.Ok) (f : FE) (hn : has S.files f.name = false) (hb : f.born = S.clock) (hs : f.name.size ≤ 40) (hl : S.files.length < 40) (hr : sizeAll S.files + f.data.size ≤ 400000) (hy : f.synced ≤ f.data.size) :
    St.Ok { S with files := S.files ++ [f], clock := S.clock + 1 } := by
  have hm : ∀ g ∈ S.files ++ [f], g ∈ S.files ∨ g = f := fun g hg => by
    rcases List.mem_append.1 hg with h1 | h1
    · exact .inl h1
    · exact .inr (List.mem_singleton.1 h1)
  refine ⟨⟨h.fits.ops, h.fits.left⟩, ?_, ⟨fun g hg => ?_, ?_⟩, fun g hg => ?_, ?_, ?_, fun g hg => ?_⟩
  · refine List.pairwise_append.2 ⟨h.apart, List.pairwise_singleton _ _, fun a ha b hb' => ?_⟩
    obtain rfl := List.mem_singleton.1 hb'
    exact has_false hn a ha
  · show g.born < S.clock + 1
    rcases hm g hg with h1 | rfl
    · have := h.stamps.old g h1; omega
    · omega
  · show ((S.files ++ [f]).map (·.born)).Nodup
    rw [List.map_append]
    refine List.nodup_append.2 ⟨h.stamps.once, by simp, fun a ha b hb' => ?_⟩
    obtain ⟨x, hx, rfl⟩ := List.mem_map.1 ha
    have hb'' : b = f.born := by simpa using hb'
    have := h.stamps.old x hx
    omega
  · rcases hm g hg with h1 | rfl
    · exact h.names g h1
    · exact hs
  · show (S.files ++ [f]).length ≤ 40
    rw [List.length_append]; show S.files.length + 1 ≤ 40; omega
  · show sizeAll (S.files ++ [f]) ≤ 400000
    rw [sizeAll_append]; show sizeAll S.files + (f.data.size + 0) ≤ _; omega
  · rcases hm g hg with h1 | rfl
    · exact h.synced g h1
    · exact hy

theorem upd_size {l : List FE} (s : ByteArray) (g : FE → FE) (hg : ∀ f ∈ l, (g f).data.size ≤ f.data.size) : sizeAll (upd l s g) ≤ sizeAll l := by
  induction l with
  | nil => exact Nat.le_refl _
  | cons f l ih =>
    have h1 := ih fun x hx => hg x (by simp [hx])
    have h2 := hg f (by simp)
    show (if f.name = s then g f else f).data.size + sizeAll (upd l s g) ≤ f.data.size + sizeAll l
    split <;> omega
theorem upd_size_app {l : List FE} (ha : Apart l) {s : ByteArray} (hh : has l s = true) (x : ByteArray) : sizeAll (upd l s (appFE x)) = sizeAll l + x.size := by
  obtain ⟨p, f, q, rfl, hf, hp⟩ := has_true hh
  subst hf
  rw [upd_hit (appFE x) rfl ha.mid.1 ha.mid.2, sizeAll_append, sizeAll_append]
  show sizeAll p + ((f.data ++ x).size + sizeAll q) = sizeAll p + (f.data.size + sizeAll q) + x.size
  rw [ByteArray.size_append]; omega

theorem St.Ok.create {S : St} (h : S.Ok) (s : ByteArray) : (S.create s).2.Ok :=
  does_holds h fun he => by
    have h0 := createErr_zero (S := S) he
    have hv := of_decide_eq_true h0.1
    exact add_holds h.op (newFE s S.op.clock) h0.2.1 rfl hv.2 h0.2.2 (by have := h.room; show sizeAll S.files + 0 ≤ 400000; omega) (Nat.zero_le _)
theorem St.Ok.sync {S : St} (h : S.Ok) (s : ByteArray) : (S.sync s).2.Ok :=
  does_holds h fun _ => upd_holds h.op s syncFE (fun _ => rfl) (fun _ => rfl) (fun _ _ => Nat.le_refl _) (Nat.le_trans (upd_size _ _ fun _ _ => Nat.le_refl _) h.room)
theorem St.Ok.remove {S : St} (h : S.Ok) (s : ByteArray) : (S.remove s).2.Ok := does_holds h fun _ => del_holds h.op s
theorem appErr_zero {S : St} {s x : ByteArray} (h : appErr S s x = 0) : has S.files s = true ∧ sizeAll S.files + x.size ≤ 400000 := by
  unfold appErr at h
  split at h
  · rename_i hh
    split at h
    · rename_i hr; exact ⟨hh, hr⟩
    · cases h
  · cases h
theorem St.Ok.append {S : St} (h : S.Ok) (s x : ByteArray) : (S.append s x).2.Ok := by
  unfold St.append
  split
  · show St.Ok (if appErr S s x = 0 then _ else _)
    split
    · rename_i he
      have h0 := appErr_zero he
      refine upd_holds h.op s (appFE x) (fun _ => rfl) (fun _ => rfl) (fun f hf => ?_) ?_
      · have := h.synced f hf
        show f.synced ≤ (f.data ++ x).size
        rw [ByteArray.size_append]; omega
      · show sizeAll (upd S.files s (appFE x)) ≤ _
        rw [upd_size_app h.apart h0.1]; exact h0.2
    · exact h.op
  · exact h
theorem crashAll_holds (keep : List Int) : ∀ (names : List ByteArray) (i : Nat) (S : St), S.Ok → St.Ok { S with files := crashAll keep names i S.files }
  | [], _, S, h => by
    show St.Ok { S with files := S.files }
    exact h
  | s :: names, i, S, h => by
    have h1 : St.Ok { S with files := upd S.files s (crashFE keep i) } := upd_holds h s (crashFE keep i) (fun _ => rfl) (fun _ => rfl) (fun f hf => by
      have := keptAt_le keep i f (h.synced f hf)
      show f.synced + keptAt keep i f ≤ (f.data.extract 0 (f.synced + keptAt keep i f)).size
      rw [ByteArray.size_extract]; omega) (Nat.le_trans (upd_size _ _ fun f _ => by
      show (f.data.extract 0 (f.synced + keptAt keep i f)).size ≤ _
      rw [ByteArray.size_extract]; omega) h.room)
    exact crashAll_holds keep names (i + 1) _ h1
theorem St.Ok.crash {S : St} (h : S.Ok) (keep : List Int) : (S.crash keep).Ok :=
  crashAll_holds keep (namesOf S.files) 0 { S with on := false, fused := false } ⟨⟨h.fits.ops, h.fits.left⟩, h.apart, h.stamps, h.names, h.few, h.room, h.synced⟩
theorem St.Ok.setOn {S : St} (h : S.Ok) (b : Bool) : St.Ok { S with on := b } := ⟨⟨h.fits.ops, h.fits.left⟩, h.apart, h.stamps, h.names, h.few, h.room, h.synced⟩
theorem St.Ok.setFuse {S : St} (h : S.Ok) (n : Int) (hn : -9223372036854775808 ≤ n ∧ n ≤ 9223372036854775807) : St.Ok { S with fused := decide (0 ≤ n), left := n } := ⟨⟨h.fits.ops, hn⟩, h.apart, h.stamps, h.names, h.few, h.room, h.synced⟩

theorem moved_holds {S : St} (h : S.Ok) {t : ByteArray} (ht : t.size ≤ 40) (f : FE) (hl : S.files.length < 40) (hr : sizeAll S.files + f.data.size ≤ 400000) (hy : f.synced ≤ f.data.size) :
    St.Ok { S with files := (moved S.files t f S.clock).1, clock := (moved S.files t f S.clock).2 } := by
  unfold moved
  cases hh : has S.files t
  · exact add_holds h ⟨t, f.data, f.synced, S.clock⟩ hh rfl ht hl hr hy
  · refine upd_holds h t (fun g => { g with data := f.data, synced := f.synced }) (fun _ => rfl) (fun _ => rfl) (fun _ _ => hy) ?_
    obtain ⟨p, g, q, he, hg, hp⟩ := has_true hh
    have ha := h.apart
    rw [he] at ha hr ⊢
    subst hg
    rw [upd_hit _ rfl ha.mid.1 ha.mid.2, sizeAll_append]
    rw [sizeAll_append] at hr
    simp only [sizeAll] at hr ⊢
    omega
theorem St.Ok.rename {S : St} (h : S.Ok) (s t : ByteArray) : (S.rename s t).2.Ok :=
  does_holds h fun he => by
    have hh := renErr_zero he
    have hv : validB t = true := by
      unfold renErr at he
      rw [hh, if_pos rfl] at he
      split at he
      · rename_i hv; exact hv
      · cases he
    obtain ⟨p, f, q, hl, hf, hp⟩ := has_true hh
    have hl' : S.op.files = p ++ f :: q := hl
    unfold ren
    rw [show fileOf S.op.files s = some f by rw [hl']; exact fileOf_hit hf hp]
    have ha := h.apart
    rw [hl] at ha
    have hd : del S.op.files s = p ++ q := by
      rw [hl']; subst hf; exact del_hit rfl ha.mid.1 ha.mid.2
    have h2 := del_holds h.op s
    have hfew := h.few
    have hroom := h.room
    rw [hl] at hfew hroom
    rw [List.length_append, List.length_cons] at hfew
    rw [sizeAll_append] at hroom
    simp only [sizeAll] at hroom
    refine moved_holds (S := { S.op with files := del S.op.files s }) h2 (of_decide_eq_true hv).2 f ?_ ?_ (h.synced f (by rw [hl]; simp))
    · show (del S.op.files s).length < 40
      rw [hd, List.length_append]; omega
    · show sizeAll (del S.op.files s) + _ ≤ _
      rw [hd, sizeAll_append]; omega

/-! ### The operations, at every disk of which that holds -/
section
variable {d m : Nat} {S : St} {w : World}
theorem create_ok (hO : S.Ok) (s : ByteArray) (hs : s.size ≤ 281474976710656) (h : IsDisk w d m S) : Calls Tryz.prog 37 #[.pointer (some ⟨d, 0, none⟩), .string s] w fun e w' => e = .returned (.int .i64 (S.create s).1) ∧ IsDisk w' d m (S.create s).2 ∧ Only d m w w' := create_any d m S s w h hs hO.fits
theorem append_ok (hO : S.Ok) (s x : ByteArray) (hx : x.size ≤ 4611686018427387904) (h : IsDisk w d m S) : Calls Tryz.prog 19 #[.pointer (some ⟨d, 0, none⟩), .string s, .string x] w fun e w' => e = .returned (.int .i64 (S.append s x).1) ∧ IsDisk w' d m (S.append s x).2 ∧ Only d m w w' := append_any d m S s x w h hO.fits hO.apart hO.stamps hO.room hx
theorem sync_ok (hO : S.Ok) (s : ByteArray) (h : IsDisk w d m S) : Calls Tryz.prog 47 #[.pointer (some ⟨d, 0, none⟩), .string s] w fun e w' => e = .returned (.int .i64 (S.sync s).1) ∧ IsDisk w' d m (S.sync s).2 ∧ Only d m w w' := sync_any d m S s w h hO.fits hO.apart
theorem remove_ok (hO : S.Ok) (s : ByteArray) (h : IsDisk w d m S) : Calls Tryz.prog 92 #[.pointer (some ⟨d, 0, none⟩), .string s] w fun e w' => e = .returned (.int .i64 (S.remove s).1) ∧ IsDisk w' d m (S.remove s).2 ∧ Only d m w w' := remove_any d m S s w h hO.fits hO.apart
theorem rename_okay (hO : S.Ok) (s t : ByteArray) (ht : t.size ≤ 281474976710656) (h : IsDisk w d m S) : Calls Tryz.prog 77 #[.pointer (some ⟨d, 0, none⟩), .string s, .string t] w fun e w' => e = .returned (.int .i64 (S.rename s t).1) ∧ IsDisk w' d m (S.rename s t).2 ∧ Only d m w w' := rename_any d m S s t w h hO.fits hO.apart ht
theorem files_ok (hO : S.Ok) (h : IsDisk w d m S) : Calls Tryz.prog 22 #[.pointer (some ⟨d, 0, none⟩)] w fun e w' => ∃ v, e = .returned v ∧ Strs w' v (namesOf S.files) ∧ Below w.heap.size w w' := files_any d m S w h hO.stamps hO.apart hO.names (by have := hO.few; omega)
theorem crash_ok (hO : S.Ok) (kv : Value) (keep : List Int) (h : IsDisk w d m S) (hk : ∀ W, Only d m w W → Ints W kv keep) : Calls Tryz.prog 25 #[.pointer (some ⟨d, 0, none⟩), kv] w fun e w' => e = .returned (.tuple #[]) ∧ IsDisk w' d m (S.crash keep) ∧ Only d m w w' := crash_any d m S kv keep w h hO.stamps hO.apart hO.names (by have := hO.few; omega) hO.whole hk
end

end Go.Proofs.YtncpeaamfmfcgaaGreat
