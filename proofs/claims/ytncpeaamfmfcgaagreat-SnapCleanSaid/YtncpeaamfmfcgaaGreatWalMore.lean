/- A law's own rows of texts beside its log: appends, and what stays. -/
import Derived.Test.YtncpeaamfmfcgaaGreatWalShort
namespace Go.Proofs.YtncpeaamfmfcgaaGreat
open Go.RowKit Go.Proofs.YtncpeaamfmfcgaaGreat.Sum

set_option maxRecDepth 100000 in
/-- append(u, v...) of texts, u the call's own: as run_append_texts, and where the new row lies. -/
theorem append_texts (w : World) (base : Nat) (u : Value) (xs : List ByteArray) (hown : Texts w base u xs) (v : Value) (l : List ByteArray) (hv : Strs w v l) (hn : xs.length + l.length ≤ 1000000000) (hbase : base ≤ w.heap.size) :
    ∃ ao n cap w', (Builtin.append_ #[22, 22] 22 #[u, v]).run Tryz.prog w = .ok (.slice ao n cap) w' ∧ Texts w' base (.slice ao n cap) (xs ++ l) ∧ w.grownBy w' u.ownBlock ∧
      ((Value.slice ao n cap).ownBlock = u.ownBlock ∨ (Value.slice ao n cap).ownBlock = some w.heap.size) := by
  obtain ⟨i0, hi, hz0, hz1, hz2⟩ := info_parts infoString
  have go : ∀ (ad : Addr) (c : Nat), v = .slice (some ad) l.length c → (∀ j x, (l.map Value.string)[j]? = some x → w.cell? (ad.add j) = some x) →
      ∃ ao n cap w', (Builtin.append_ #[22, 22] 22 #[u, v]).run Tryz.prog w = .ok (.slice ao n cap) w' ∧ Texts w' base (.slice ao n cap) (xs ++ l) ∧ w.grownBy w' u.ownBlock ∧
        ((Value.slice ao n cap).ownBlock = u.ownBlock ∨ (Value.slice ao n cap).ownBlock = some w.heap.size) := by
    intro ad c hvv hcell
    obtain ⟨u', w', h1, h2, h3, -, h5⟩ := run_append_own_at (P := Tryz.prog) w base 22 22 9 i0 (.string ByteArray.empty) 1 16 Tryz.underlying22 hi hz0 hz1 hz2 rfl (by decide) u xs.length (xs.map Value.string) hown ad l.length c (l.map Value.string) (by simp) hcell
      (by intro x hx; obtain ⟨s, _, rfl⟩ := List.mem_map.1 hx; rfl) (by unfold maxLen; omega) (by omega) hbase
    rw [hvv]
    obtain ⟨ao, n, cap, rfl⟩ := own_slice h2
    exact ⟨ao, n, cap, w', h1, by unfold Texts; rw [List.length_append, List.map_append]; exact h2, h3, h5⟩
  obtain ⟨a, cap, rfl, hl, hnone, hc⟩ := hv
  cases a with
  | some ad =>
    refine go ad cap rfl fun j x hj => ?_
    have hj' : j < l.length := by
      have := (List.getElem?_eq_some_iff.1 hj).1
      simpa using this
    obtain ⟨b, off, he, _, h1⟩ := hc j hj'
    injection he with he
    subst he
    rw [List.getElem?_map, List.getElem?_eq_getElem hj'] at hj
    injection hj with hj
    subst hj
    have hadd : (⟨b, off, none⟩ : Addr).add j = ⟨b, off + j, none⟩ := by unfold Addr.add; split <;> simp_all
    rw [hadd]; exact h1
  | none =>
    have h0 := hnone rfl
    have hl0 : l = [] := List.eq_nil_of_length_eq_zero (by omega)
    subst hl0
    subst h0
    obtain ⟨ao, n, cap, rfl⟩ := own_slice hown
    refine ⟨ao, n, cap, w, run_append_owned_none (P := Tryz.prog) (w := w) base 22 22 9 i0 1 Tryz.underlying22 hi _ _ _ hown, by rw [List.append_nil]; exact hown, ⟨rfl, rfl, rfl, Nat.le_refl _, fun _ _ _ => rfl⟩, .inl rfl⟩

theorem Texts.lt {w : World} {base : Nat} {v : Value} {l : List ByteArray} (h : Texts w base v l) : ∀ k, v.ownBlock = some k → base ≤ k ∧ k < w.heap.size := World.ownsRow.lt h
theorem Texts.block {w w' : World} {base : Nat} {v : Value} {l : List ByteArray} (h : Texts w base v l) (hb : ∀ k, v.ownBlock = some k → w'.heap[k]? = w.heap[k]?) : Texts w' base v l := by
  rcases h.2 with ⟨rfl, h0⟩ | ⟨g', cap, cur, rfl, h1, hg, h2⟩
  · exact ⟨h.1, .inl ⟨rfl, h0⟩⟩
  · exact ⟨h.1, .inr ⟨g', cap, cur, rfl, h1, (hb g' rfl).trans hg, h2⟩⟩
/-- A row of texts that is not the log's stays, whatever the log's calls do. -/
theorem Texts.keeps {w w' : World} {base : Nat} {v : Value} {l : List ByteArray} {B d m g : Nat} {rv rv' : Value} {w0 : World} {S : St} {L : LSt} (h : Texts w base v l) (ha : At w0 B w d m g rv S L) (hne : ∀ q, v.ownBlock = some q → rv.ownBlock ≠ some q) (hk : Keeps d m g rv rv' w w') : Texts w' base v l := by
  have h1 := h.apart ha.disk
  have h2 := h.off ha.log.cells
  refine h.block fun k q => hk.block k (h.lt k q).2 (fun e => h1.1 (by rw [q, e])) (fun e => h1.2 (by rw [q, e])) (fun e => h2 (by rw [q, e])) (hne k q)
theorem Keeps.apart {d m g : Nat} {rv rv' v : Value} {w w' : World} (hk : Keeps d m g rv rv' w w') (hlt : ∀ q, v.ownBlock = some q → q < w.heap.size) (hne : ∀ q, v.ownBlock = some q → rv.ownBlock ≠ some q) : ∀ q, v.ownBlock = some q → rv'.ownBlock ≠ some q := by
  intro q hq hr
  rcases hk.row q hr with h | h
  · exact hne q hq h
  · have := hlt q hq; omega
theorem Texts.only' {w w' : World} {base : Nat} {v : Value} {l : List ByteArray} {B d m g : Nat} {rv : Value} {w0 : World} {S : St} {L : LSt} (h : Texts w base v l) (ha : At w0 B w d m g rv S L) (ho : Only d m w w') : Texts w' base v l := h.only ha.disk ho

/-- What grows another row leaves the log alone. -/
theorem At.grown {w0 w w' : World} {B d m g : Nat} {rv v : Value} {S : St} {L : LSt} {base : Nat} {l : List ByteArray} (h : At w0 B w d m g rv S L) (ht : Texts w base v l) (hB : B ≤ base) (hne : ∀ q, v.ownBlock = some q → rv.ownBlock ≠ some q) (hg : w.grownBy w' v.ownBlock) : At w0 B w' d m g rv S L := by
  have h1 := ht.apart h.disk
  have h2 := ht.off h.log.cells
  refine ⟨h.below.grown hg h.size (fun k q => Nat.le_trans hB (ht.lt k q).1), Nat.le_trans h.size hg.size, h.hd, h.hm, h.hg, h.disk.grown hg h1.1 h1.2, ⟨h.log.cells.grown hg h2, ?_⟩⟩
  obtain ⟨recs, hr, ht'⟩ := h.log.rows
  refine ⟨recs, hr, World.ownsRow.kept ht' hg ?_⟩
  rcases hrv : rv.ownBlock with _ | q
  · exact .inl rfl
  · exact .inr fun e => hne q e.symm hrv
theorem Live.grown {w0 w w' : World} {B d m g : Nat} {rv v : Value} {S : St} {name : ByteArray} {gs : List (List (List UInt8))} {base : Nat} {l : List ByteArray} (h : Live w0 B w d m g rv S name gs) (ht : Texts w base v l) (hB : B ≤ base) (hne : ∀ q, v.ownBlock = some q → rv.ownBlock ≠ some q) (hg : w.grownBy w' v.ownBlock) : Live w0 B w' d m g rv S name gs :=
  ⟨h.here.grown ht hB hne hg, h.uno, h.calm, h.fits, h.few⟩

theorem addGroup_few {gs : List (List (List UInt8))} {l : List ByteArray} {n room : Nat} (h : Few n room l) (hn : n ≤ 100000) : (logBytes (addGroup gs (raw l))).length ≤ (logBytes gs).length + (room + 9 * n + 12) ∧ (addGroup gs (raw l)).length ≤ gs.length + 1 := by
  have := h.bytes hn
  unfold addGroup
  split
  · exact ⟨by omega, by omega⟩
  · rw [logBytes_snoc, List.length_append, List.length_append]
    exact ⟨by omega, by simp⟩

theorem apart_of_lt {w : World} {base : Nat} {v rv : Value} {l : List ByteArray} (h : Texts w base v l) (hr : ∀ k, rv.ownBlock = some k → w.heap.size ≤ k) : ∀ q, v.ownBlock = some q → rv.ownBlock ≠ some q := by
  intro q hq hrq
  have := hr q hrq
  have := (h.lt q hq).2
  omega

/-- append(append([]string(nil), a...), b...): both lists in a row of its own; all that was there is as it was. -/
theorem join_texts (w : World) (u v : Value) (l1 l2 : List ByteArray) (h1 : Strs w u l1) (h2 : Strs w v l2) (hn : l1.length + l2.length ≤ 1000000000) :
    ∃ a1 n1 c1 w1 a2 n2 c2 w2, (Builtin.append_ #[22, 22] 22 #[.slice none 0 0, u]).run Tryz.prog w = .ok (.slice a1 n1 c1) w1 ∧
      (Builtin.append_ #[22, 22] 22 #[.slice a1 n1 c1, v]).run Tryz.prog w1 = .ok (.slice a2 n2 c2) w2 ∧ Texts w2 w.heap.size (.slice a2 n2 c2) (l1 ++ l2) ∧ Below w.heap.size w w2 := by
  obtain ⟨a1, n1, c1, w1, hr1, ht1, hg1, -⟩ := append_texts w w.heap.size (.slice none 0 0) [] (Texts.nil _ _) u l1 h1 (by simp; omega) (Nat.le_refl _)
  rw [List.nil_append] at ht1
  have hb1 : Below w.heap.size w w1 := ⟨hg1.os, hg1.tape, hg1.output, hg1.size, fun k hk => hg1.block k hk (by simp [Value.ownBlock])⟩
  obtain ⟨a2, n2, c2, w2, hr2, ht2, hg2, -⟩ := append_texts w1 w.heap.size _ l1 ht1 v l2 (h2.later hb1) hn hb1.size
  exact ⟨a1, n1, c1, w1, a2, n2, c2, w2, hr1, hr2, ht2, Below.grownTexts hb1 ht1 hg2 hb1.size⟩

end Go.Proofs.YtncpeaamfmfcgaaGreat
