/- wal: Commit. -/
import Derived.Test.YtncpeaamfmfcgaaGreatWal
import Derived.Test.YtncpeaamfmfcgaaGreatWalLong
import Derived.Deep.RegionLaw
import Derived.RegionTactic
import Derived.ChangeAlike
import Derived.BigCall
namespace Go.Proofs.YtncpeaamfmfcgaaGreat
open Go.RowKit Go.Proofs.YtncpeaamfmfcgaaGreat.Sum

/-- Of what was there only the disk, the log and its row have turned; the row's block is as it was, or new. -/
structure Keeps (d m g : Nat) (rv rv' : Value) (w w' : World) : Prop where
  os : w'.os = w.os
  tape : w'.tape = w.tape
  output : w'.output = w.output
  size : w.heap.size ≤ w'.heap.size
  block : ∀ k, k < w.heap.size → k ≠ d → k ≠ m → k ≠ g → rv.ownBlock ≠ some k → w'.heap[k]? = w.heap[k]?
  row : ∀ k, rv'.ownBlock = some k → rv.ownBlock = some k ∨ w.heap.size ≤ k

theorem Keeps.of_only {d m g : Nat} {rv : Value} {w w' : World} (h : Only d m w w') : Keeps d m g rv rv w w' := ⟨h.os, h.tape, h.output, h.size, fun k hk h1 h2 _ _ => h.block k hk h1 h2, fun _ h => .inl h⟩
theorem Keeps.of_below {d m g : Nat} {rv : Value} {w w' : World} (h : Below w.heap.size w w') : Keeps d m g rv rv w w' := Keeps.of_only (Only.of_below h)
theorem Keeps.trans {d m g : Nat} {rv rv' rv'' : Value} {a b c : World} (h : Keeps d m g rv rv' a b) (k : Keeps d m g rv' rv'' b c) : Keeps d m g rv rv'' a c := by
  refine ⟨k.os.trans h.os, k.tape.trans h.tape, k.output.trans h.output, Nat.le_trans h.size k.size, fun i hi h1 h2 h3 h4 => ?_, fun i hi => ?_⟩
  · rw [k.block i (Nat.lt_of_lt_of_le hi h.size) h1 h2 h3 (fun q => ?_)]
    · exact h.block i hi h1 h2 h3 h4
    · rcases h.row i q with hr | hr
      · exact h4 hr
      · omega
  · rcases k.row i hi with hr | hr
    · rcases h.row i hr with hr2 | hr2
      · exact .inl hr2
      · exact .inr hr2
    · exact .inr (Nat.le_trans h.size hr)
theorem Keeps.set {d m g : Nat} {rv : Value} (w : World) (i : Nat) (v : Value) : Keeps d m g rv rv w (w.setCell ⟨g, i, none⟩ v) :=
  ⟨rfl, rfl, rfl, by simp [World.setCell], fun _ _ _ _ h3 _ => Below.heap_setCell _ _ _ _ h3, fun _ h => .inl h⟩

/-! ### What Commit comes to -/
def longR (l : List (List UInt8)) : Bool := l.any fun s => decide (60000 ≤ s.length)
theorem longB_raw (l : List ByteArray) : longB l = longR (raw l) := by
  unfold longB longR raw
  rw [List.any_map]
  congr 1
def St.commitRun (S : St) (name : ByteArray) (l : List (List UInt8)) : Int × St := runSteps [fun T => T.append name ⟨(groupBytes l).toArray⟩, fun T => T.sync name] S
def St.commit (S : St) (L : LSt) (l : List (List UInt8)) : Int × St × LSt :=
  if L.broken then (14, S, L)
  else if longR l then (2, S, L)
  else if l = [] then (0, S, L)
  else if (S.commitRun L.name l).1 = 0 then (0, (S.commitRun L.name l).2, { L with recs := L.recs ++ l, groups := L.groups + 1, size := L.size + (groupBytes l).length })
  else ((S.commitRun L.name l).1, (S.commitRun L.name l).2, { L with broken := true })

def CommitOut (o : Int × St × LSt) (d m g : Nat) (base : Nat) (rv : Value) (w : World) (e : Ending) (w' : World) : Prop :=
  e = .returned (.int .i64 o.1) ∧ IsDisk w' d m o.2.1 ∧ ∃ rv', IsLog w' base g d rv' o.2.2 ∧ Keeps d m g rv rv' w w'

theorem groupBytes_le (l : List ByteArray) (h : ∀ s ∈ l, s.size < 60000) (hl : l.length ≤ 100000) : (groupBytes (raw l)).length ≤ 7000000000 := by
  have key : ∀ (m : List (List UInt8)), (∀ s ∈ m, s.length ≤ 60000) → (frames m).length ≤ m.length * 60008 := by
    intro m
    induction m with
    | nil => intro _; simp [frames]
    | cons s m ih =>
      intro hm
      have h1 := hm s (by simp)
      have h2 := ih fun x hx => hm x (by simp [hx])
      simp only [frames, List.length_append, frame_length, List.length_cons]
      omega
  unfold groupBytes
  rw [frames_append, List.length_append, frames_one, frame_length]
  have h1 := key ((raw l).map (114 :: ·)) (by
    intro s hs
    obtain ⟨x, hx, rfl⟩ := List.mem_map.1 hs
    obtain ⟨y, hy, rfl⟩ := List.mem_map.1 hx
    have := h y hy
    rw [List.length_cons, ← Lib.size_eq]; omega)
  have h2 : ((raw l).map (114 :: ·)).length = l.length := by unfold raw; rw [List.length_map, List.length_map]
  have h3 : (raw l).length = l.length := by unfold raw; rw [List.length_map]
  have h4 := varint_length (2 * (raw l).length)
  rw [List.length_cons]
  rw [h2] at h1
  rw [h3] at h4 ⊢
  omega

/-! ### The two steps -/
def commitFi (k : Nat) : Nat := match k with
  | 0 => 45
  | _ => 46
def commitCaps (p q : Nat) (k : Nat) : Array Value := match k with
  | 0 => #[.pointer (some ⟨p, 0, none⟩), .pointer (some ⟨q, 0, none⟩)]
  | _ => #[.pointer (some ⟨p, 0, none⟩)]
/-- The world in which Commit's steps are done. -/
def commitW (w : World) (p : Nat) (b : ByteArray) : World :=
  (w.alloc (.cells #[.string b] 9)).alloc
    (.cells #[.func (.func 45) #[] #[.pointer (some ⟨p, 0, none⟩), .pointer (some ⟨w.heap.size, 0, none⟩)],
      .func (.func 46) #[] #[.pointer (some ⟨p, 0, none⟩)]] 77)
theorem commitW_below (w : World) (p : Nat) (b : ByteArray) : Below w.heap.size w (commitW w p b) := below_alloc (below_alloc (Below.refl _ w) _) _

theorem commitW_text (w : World) (p : Nat) (b : ByteArray) : (commitW w p b).cell? ⟨w.heap.size, 0, none⟩ = some (.string b) := by
  unfold commitW
  rw [World.cell?_alloc_past _ _ _ (by simp), World.cell?_alloc_at _ _ _ _ rfl]; rfl

theorem commit_first {d m g p : Nat} {name b : ByteArray} {rv : Value} {n z : Nat} {br : Bool} {S : St} {w : World} (hO : S.Ok) (h : IsDisk w d m S) (hL : LogAt w g (.pointer (some ⟨d, 0, none⟩)) name rv n z br) (hb : b.size ≤ 4611686018427387904)
    (hp : w.cell? ⟨p, 0, none⟩ = some (.pointer (some ⟨g, 0, none⟩))) (hpd : p ≠ d) (hpm : p ≠ m) :
    Calls Tryz.prog 44 #[.slice (some ⟨w.heap.size + 1, 0, none⟩) 2 2] (commitW w p b) fun e w' => e = .returned (.int .i64 (runSteps [fun T => T.append name b, fun T => T.sync name] S).1) ∧ IsDisk w' d m (runSteps [fun T => T.append name b, fun T => T.sync name] S).2 ∧ Only d m (commitW w p b) w' := by
  have hlt := h.lt
  have hap := hL.apart h
  have hbl := commitW_below w p b
  have c1 := commitW_text w p b
  have hcap : Cap (commitW w p b) d m p g w.heap.size b name rv n z br :=
    ⟨cell_later hp hbl, c1, hL.later hbl, hpd, hpm, by omega, by omega, hap.1, hap.2⟩
  refine (steps_any (b := w.heap.size + 1) [fun T => T.append name b, fun T => T.sync name] commitFi (commitCaps p w.heap.size) hO (h.later hbl) ?_ (by simp) (by omega) (by omega) ?_ ?_ ?_).mono ?_
  · intro f hf T hT
    simp only [List.mem_cons, List.not_mem_nil, or_false] at hf
    rcases hf with rfl | rfl
    · exact hT.append _ _
    · exact hT.sync _
  · intro k hk
    unfold commitW
    rw [World.cell?_alloc_at _ _ _ _ (by simp)]
    match k, hk with
    | 0, _ => rfl
    | 1, _ => rfl
  · intro k hk args W
    match k, hk with
    | 0, _ => exact enters_of Tryz.func45 (by kernel_rfl) rfl args W
    | 1, _ => exact enters_of Tryz.func46 (by kernel_rfl) rfl args W
  · intro k hk W T hT hTO ho
    have hc := hcap.only ho
    match k, hk with
    | 0, _ => exact commit2_any hTO hT hc hb
    | 1, _ => exact commit3_any hTO hT hc
  · rintro e w' ⟨rfl, hd', ho'⟩
    exact ⟨rfl, hd', ho'⟩

/-! ### Of no log -/
set_option maxHeartbeats 1000000 in
theorem commit_nil (v : Value) (w : World) : Calls Tryz.prog 13 #[.pointer none, v] w fun e w' => e = .returned (.int .i64 1) ∧ Below w.heap.size w w' := by
  go_enter Tryz.func13, Tryz.ntmps13
  go_wp2_with fail
  refine (none_nil _).mono ?_
  rintro e w1 ⟨rfl, rfl⟩
  go_wp2
  go_ret
  exact ⟨rfl, below_alloc (Below.refl _ w) _⟩
set_option maxHeartbeats 1000000 in
theorem commit_zero {g : Nat} {name : ByteArray} {rv : Value} {n z : Nat} {br : Bool} (v : Value) (w : World) (h : LogAt w g (.pointer none) name rv n z br) : Calls Tryz.prog 13 #[.pointer (some ⟨g, 0, none⟩), v] w fun e w' => e = .returned (.int .i64 1) ∧ Below w.heap.size w w' := by
  have HL := Lib.hid (h.later (below_alloc (Below.refl _ w) (.cells #[.pointer (some ⟨g, 0, none⟩)] 24)))
  clear h
  go_enter Tryz.func13, Tryz.ntmps13
  go_wp2_with fail
  refine (none_zero _ HL.out).mono ?_
  rintro e w1 ⟨rfl, rfl⟩
  go_wp2
  go_ret
  exact ⟨rfl, below_alloc (Below.refl _ w) _⟩

/-- What holds at a round's head: k records were taken in. -/
def TakeRel (d m g base p q : Nat) (rv : Value) (L : LSt) (T : St) (l : List ByteArray) (b : ByteArray) (w : World) (k : Nat) (wr : World) : Prop :=
  ∃ (rv' : Value) (recs : List ByteArray), LogAt wr g (.pointer (some ⟨d, 0, none⟩)) L.name rv' L.groups L.size L.broken ∧ Texts wr base rv' recs ∧ raw recs = L.recs ++ raw (l.take k) ∧ Keeps d m g rv rv' w wr ∧ IsDisk wr d m T ∧
    wr.cell? ⟨p, 0, none⟩ = some (.pointer (some ⟨g, 0, none⟩)) ∧ wr.cell? ⟨q, 0, none⟩ = some (.string b) ∧ rv'.ownBlock ≠ some p ∧ rv'.ownBlock ≠ some q

theorem IsDisk.grown {w w' : World} {d m : Nat} {S : St} {row : Option Nat} (h : IsDisk w d m S) (hg : w.grownBy w' row) (hd : row ≠ some d) (hm : row ≠ some m) : IsDisk w' d m S :=
  ⟨(hg.block d h.lt.1 (fun q => hd q.symm)).trans h.cells, (hg.block m h.lt.2 (fun q => hm q.symm)).trans h.map⟩
theorem IsDisk.setLog {w : World} {d m g : Nat} {S : St} (h : IsDisk w d m S) (i : Nat) (v : Value) (hd : g ≠ d) (hm : g ≠ m) : IsDisk (w.setCell ⟨g, i, none⟩ v) d m S :=
  h.grown (grown_set w g i v) (fun q => hd (Option.some.inj q)) (fun q => hm (Option.some.inj q))
theorem cell_set {w : World} {g i : Nat} {v x : Value} {a : Addr} (h : w.cell? a = some x) (ha : a.block ≠ g) : (w.setCell ⟨g, i, none⟩ v).cell? a = some x :=
  (World.cell?_of_block (Below.heap_setCell _ _ _ _ ha)).trans h

theorem take_step {d m g base p q : Nat} {rv rv' nv : Value} {L : LSt} {T : St} {l : List ByteArray} {b s : ByteArray} {w wr w3 w4 : World} {k : Nat} {recs : List ByteArray} (hk : k < l.length) (hs : l[k] = s)
    (hL : LogAt wr g (.pointer (some ⟨d, 0, none⟩)) L.name rv' L.groups L.size L.broken) (ht : Texts wr base rv' recs) (hr : raw recs = L.recs ++ raw (l.take k)) (hK : Keeps d m g rv rv' w wr) (hD : IsDisk wr d m T)
    (hp : wr.cell? ⟨p, 0, none⟩ = some (.pointer (some ⟨g, 0, none⟩))) (hq : wr.cell? ⟨q, 0, none⟩ = some (.string b)) (hvp : rv'.ownBlock ≠ some p) (hvq : rv'.ownBlock ≠ some q) (hpg : p ≠ g) (hqg : q ≠ g)
    (hb3 : Below wr.heap.size wr w3) (hg4 : w3.grownBy w4 rv'.ownBlock) (ht4 : Texts w4 base nv (recs ++ [s])) (hblk : nv.ownBlock = rv'.ownBlock ∨ nv.ownBlock = some (w3.heap.size + 1)) :
    TakeRel d m g base p q rv L T l b w (k + 1) (w4.setCell ⟨g, 2, none⟩ nv) := by
  have hL3 := hL.later hb3
  have ht3 := ht.later hb3
  have hD3 := hD.later hb3
  have hL4 := hL3.grown hg4 (ht3.off hL3)
  have hoff4 := ht4.off hL4
  have hap := hL.apart hD
  have hpl := World.block_lt_of_cell? _ _ hp
  have hql := World.block_lt_of_cell? _ _ hq
  have hpl : p < wr.heap.size := hpl
  have hql : q < wr.heap.size := hql
  have hsz := hb3.size
  refine ⟨nv, recs ++ [s], setCell_row hL4 nv, ht4.kept' (grown_set w4 g 2 nv) hoff4, ?_, hK.trans ?_, (hD3.grown hg4 (ht3.apart hD3).1 (ht3.apart hD3).2).setLog 2 nv hap.1 hap.2, ?_, ?_, ?_, ?_⟩
  · rw [raw_take l k hk, hs]
    show raw (recs ++ [s]) = L.recs ++ (raw (l.take k) ++ [s.data.toList])
    rw [← List.append_assoc, ← hr]; exact List.map_append ..
  · refine ⟨hg4.os.trans hb3.os, hg4.tape.trans hb3.tape, hg4.output.trans hb3.output, ?_, fun i hi h1 h2 h3 h4 => ?_, fun i hi => ?_⟩
    · have := hg4.size; simp [World.setCell]; omega
    · rw [Below.heap_setCell _ _ _ _ h3, hg4.block i (by omega) (fun q => h4 q.symm)]
      exact hb3.block i hi
    · rcases hblk with h | h
      · exact .inl (h.symm.trans hi)
      · rw [h] at hi; have := Option.some.inj hi; right; omega
  · exact cell_set (hg4.cell (cell_later hp hb3) (fun q => hvp q.symm)) hpg
  · exact cell_set (hg4.cell (cell_later hq hb3) (fun q => hvq q.symm)) hqg
  · rcases hblk with h | h
    · rw [h]; exact hvp
    · rw [h]; intro q; have := Option.some.inj q; omega
  · rcases hblk with h | h
    · rw [h]; exact hvq
    · rw [h]; intro q; have := Option.some.inj q; omega

theorem fin_log {wr : World} {base g d : Nat} {rv' : Value} {L : LSt} {recs : List ByteArray} {r : List (List UInt8)} {x : Int} {y : Nat} (hL : LogAt wr g (.pointer (some ⟨d, 0, none⟩)) L.name rv' L.groups L.size L.broken) (ht : Texts wr base rv' recs) (hr : raw recs = r) (hx : x = (y : Int)) :
    IsLog ((wr.setCell ⟨g, 3, none⟩ (.int .i64 ((L.groups : Int) + 1))).drew.setCell ⟨g, 4, none⟩ (.int .i64 ((L.size : Int) + x))) base g d rv' { L with recs := r, groups := L.groups + 1, size := L.size + y } := by
  subst hx
  have h1 : LogAt (wr.setCell ⟨g, 3, none⟩ (.int .i64 ((L.groups : Int) + 1))).drew g (.pointer (some ⟨d, 0, none⟩)) L.name rv' (L.groups + 1) L.size L.broken := setCell_row hL _
  have h2 : LogAt ((wr.setCell ⟨g, 3, none⟩ (.int .i64 ((L.groups : Int) + 1))).drew.setCell ⟨g, 4, none⟩ (.int .i64 ((L.size : Int) + (y : Int)))) g (.pointer (some ⟨d, 0, none⟩)) L.name rv' (L.groups + 1) (L.size + y) L.broken := setCell_row h1 _
  refine ⟨h2, recs, hr, ht.kept' ?_ (ht.off hL)⟩
  exact ((grown_set wr g 3 _).trans (grown_drew _ _)).trans (grown_set _ g 4 _)

theorem take_facts {d m g base p q : Nat} {rv rv' : Value} {L : LSt} {T : St} {l : List ByteArray} {b s : ByteArray} {w wr w3 : World} {k : Nat} {recs : List ByteArray} (hk : k < l.length) (hs : l[k] = s)
    (hL : LogAt wr g (.pointer (some ⟨d, 0, none⟩)) L.name rv' L.groups L.size L.broken) (ht : Texts wr base rv' recs) (hr : raw recs = L.recs ++ raw (l.take k)) (hK : Keeps d m g rv rv' w wr) (hD : IsDisk wr d m T)
    (hp : wr.cell? ⟨p, 0, none⟩ = some (.pointer (some ⟨g, 0, none⟩))) (hq : wr.cell? ⟨q, 0, none⟩ = some (.string b)) (hvp : rv'.ownBlock ≠ some p) (hvq : rv'.ownBlock ≠ some q) (hpg : p ≠ g) (hqg : q ≠ g) (hlr : recs.length ≤ 1200000) (hbase : base ≤ wr.heap.size)
    (hb3 : Below wr.heap.size wr w3) :
    ∃ ao n' cap' w4, (Builtin.append_ #[22, 22] 22 #[rv', .slice (some ⟨w3.heap.size, 0, none⟩) 1 1]).run Tryz.prog (w3.alloc (.cells #[.string s] 9)) = .ok (.slice ao n' cap') w4 ∧
      w3.cell? ⟨p, 0, none⟩ = some (.pointer (some ⟨g, 0, none⟩)) ∧ (∀ o, (w3.alloc o).cell? ⟨p, 0, none⟩ = some (.pointer (some ⟨g, 0, none⟩))) ∧ w3.cell? ⟨g, 2, none⟩ = some rv' ∧ g < w3.heap.size ∧
      w4.cell? ⟨p, 0, none⟩ = some (.pointer (some ⟨g, 0, none⟩)) ∧ w4.cell? ⟨g, 2, none⟩ = some rv' ∧ w4.frozen? ⟨g, 2, none⟩ = false ∧ g < w4.heap.size ∧
      TakeRel d m g base p q rv L T l b w (k + 1) (w4.setCell ⟨g, 2, none⟩ (.slice ao n' cap')) := by
  have hL3 := hL.later hb3
  have ht3 := ht.later hb3
  have hp3 := cell_later hp hb3
  obtain ⟨ao, n', cap', w4, hrun, ht4, hg4, hblk⟩ := push_text ht3 s (by omega) (Nat.le_trans hbase hb3.size)
  have hL4 := hL3.grown hg4 (ht3.off hL3)
  exact ⟨ao, n', cap', w4, hrun, hp3, fun o => by rw [World.cell?_alloc_past _ _ _ (World.block_lt_of_cell? _ _ hp3)]; exact hp3, hL3.facts.2.2.1, hL3.facts.2.2.2.2.2.2.2, hg4.cell hp3 (fun q => hvp q.symm), hL4.facts.2.2.1, hL4.facts.2.2.2.2.2.2.1 2, hL4.facts.2.2.2.2.2.2.2,
    take_step hk hs hL ht hr hK hD hp hq hvp hvq hpg hqg hb3 hg4 ht4 hblk⟩

theorem IsLog.setBroken {w : World} {base g d : Nat} {rv : Value} {L : LSt} (h : IsLog w base g d rv L) : IsLog (w.setCell ⟨g, 5, none⟩ (.bool true)) base g d rv { L with broken := true } :=
  ⟨setCell_row h.cells _, let ⟨recs, h1, h2⟩ := h.rows; ⟨recs, h1, h2.kept' (grown_set w g 5 _) (h2.off h.cells)⟩⟩

theorem step_clone {ops : Array Oper} {o : Oper} {a : Act} {w : World} {K : Act → World → Prop} {Q : Exit → Act → World → Prop} {E : Prop} (hgd : o.guard = none) (x : Operand) (ats : Array TypeId)
    (ho : o.op = .call { callee := .value (.func 36), args := #[x], argTypes := ats }) (s : ByteArray) (hx : a.eval x = .string s) (hs : s.size ≤ 281474976710656)
    (h : ∀ w3, Below w.heap.size w w3 → K (a.put o.dst (.string s)) w3) : if Region.wanted o (yielded ops a.tmps) = true then Oper.wp Tryz.prog o a w K Q else E := by
  have hw : Region.wanted o (yielded ops a.tmps) = true := by simp [Region.wanted, hgd]
  rw [if_pos hw]
  obtain ⟨dst, op, ty, pos, after, guard⟩ := o
  simp only at ho
  subst ho
  unfold Oper.wp
  rw [execOp_call_go]
  simp only [List.map_toArray, List.map_cons, List.map_nil, hx]
  rw [show (#[] ++ #[Value.string s] ++ #[] : Array Value) = #[.string s] from rfl, enters_of Tryz.func36 (by kernel_rfl) rfl, Oper.upon_enter]
  refine (clone_any s w hs).mono ?_
  rintro e w3 ⟨rfl, hb⟩
  exact h w3 hb

set_option maxRecDepth 100000 in
set_option maxHeartbeats 8000000 in
theorem commit_any {base d m g : Nat} {rv : Value} {S : St} {L : LSt} {w : World} (hO : S.Ok) (h : IsDisk w d m S) (hL : IsLog w base g d rv L) (l : List ByteArray) (v : Value) (hv : Strs w v l) (hvk : ∀ W rv', Keeps d m g rv rv' w W → Strs W v l) (hl : l.length ≤ 100000) (hr : L.recs.length ≤ 1000000) (hg : L.groups ≤ 1000000) (hz : L.size ≤ 1000000) (hb : base ≤ w.heap.size) (hs : ∀ s ∈ l, s.size ≤ 9223372036854775807) :
    Calls Tryz.prog 13 #[.pointer (some ⟨g, 0, none⟩), v] w (CommitOut (S.commit L (raw l)) d m g base rv w) := by
  have hA : Below w.heap.size w (w.alloc (.cells #[.pointer (some ⟨g, 0, none⟩)] 24)) := below_alloc (Below.refl _ w) _
  have HA := Lib.hid hA
  have hlt := h.lt
  have HKR := Lib.hid (let ⟨recs, _, ht⟩ := hL.rows; World.ownsRow.lt ht)
  have HO := Lib.hid hO
  have HD := Lib.hid (h.later hA)
  have HL := Lib.hid (hL.later hA)
  have HV := Lib.hid (hv.later hA)
  have HVK := Lib.hid hvk
  have HS := Lib.hid hs
  have hc5 := hL.cells.facts.2.2.2.2.2.1
  have hgl := hL.cells.facts.2.2.2.2.2.2.2
  clear hA hO h hL hv hs hvk
  obtain ⟨va, vcap, hvv, -⟩ := HV.out.shape
  subst hvv
  rcases (show L.broken = true ∨ L.broken = false by cases L.broken <;> simp) with hbr | hbr
  · have HE := Lib.hid (show S.commit L (raw l) = (14, S, L) by unfold St.commit; rw [if_pos hbr])
    rw [hbr] at hc5
    clear hbr
    go_enter Tryz.func13, Tryz.ntmps13
    go_wp2_with fail
    refine (none_any _ HL.out.cells).mono ?_
    rintro e w1 ⟨rfl, rfl⟩
    go_wp2
    go_ret
    rw [HE.out]
    exact ⟨rfl, HD.out, rv, HL.out, Keeps.of_below HA.out⟩
  · rw [hbr] at hc5
    rcases (show longB l = true ∨ longB l = false by cases longB l <;> simp) with hlg | hlg
    · have HE := Lib.hid (show S.commit L (raw l) = (2, S, L) by unfold St.commit; rw [if_neg (by simp [hbr]), if_pos (by rw [← longB_raw]; exact hlg)])
      have HLG := Lib.hid hlg
      clear hbr hlg
      go_enter Tryz.func13, Tryz.ntmps13
      go_wp2_with fail
      refine (none_any _ HL.out.cells).mono ?_
      rintro e w1 ⟨rfl, rfl⟩
      go_wp2_with fail
      refine (containsFunc_any l _ _ HV.out (by omega) HS.out).mono ?_
      rintro e w1 ⟨rfl, rfl⟩
      rw [HLG.out]
      go_wp2
      go_ret
      rw [HE.out]
      exact ⟨rfl, HD.out, rv, HL.out, Keeps.of_below HA.out⟩
    · have HLG := Lib.hid hlg
      have HBR := Lib.hid hbr
      clear hbr hlg
      by_cases hl0 : l = []
      · have HE := Lib.hid (show S.commit L (raw l) = (0, S, L) by unfold St.commit; rw [if_neg (by simp [HBR.out]), if_neg (by rw [← longB_raw, HLG.out]; decide), if_pos (by rw [hl0]; rfl)])
        subst hl0
        go_enter Tryz.func13, Tryz.ntmps13
        go_wp2_with fail
        refine (none_any _ HL.out.cells).mono ?_
        rintro e w1 ⟨rfl, rfl⟩
        go_wp2_with fail
        refine (containsFunc_any [] _ _ HV.out (by simp) (by simp)).mono ?_
        rintro e w1 ⟨rfl, rfl⟩
        rw [HLG.out]
        go_wp2
        go_ret
        rw [HE.out]
        exact ⟨rfl, HD.out, rv, HL.out, Keeps.of_below HA.out⟩
      · have hnl : ∀ s ∈ l, s.size < 60000 := by
          intro s hs
          have h1 := List.any_eq_false.1 (show l.any tooLong = false from HLG.out) s hs
          unfold tooLong at h1
          have := of_decide_eq_false (Bool.not_eq_true _ ▸ h1)
          omega
        have HNL := Lib.hid hnl
        have hgb : (groupBytes (raw l)).length ≤ 7000000000 := groupBytes_le l hnl hl
        have HGB := Lib.hid hgb
        have hlp : 0 < l.length := List.length_pos_iff.2 hl0
        have t0 : ((l.length : Int) == 0) = false := by rw [beq_eq_false_iff_ne]; omega
        have HL0 := Lib.hid (show ¬ raw l = [] by intro q; apply hl0; have h1 := congrArg List.length q; unfold raw at h1; rw [List.length_map] at h1; exact List.eq_nil_of_length_eq_zero h1)
        have hbsz : (⟨(groupBytes (raw l)).toArray⟩ : ByteArray).size = (groupBytes (raw l)).length := by rw [Lib.size_eq]
        generalize hbb : (⟨(groupBytes (raw l)).toArray⟩ : ByteArray) = b at *
        have HBB := Lib.hid hbb
        have HBS := Lib.hid hbsz
        have HCOM := Lib.hid (show S.commit L (raw l) = if (S.commitRun L.name (raw l)).1 = 0 then (0, (S.commitRun L.name (raw l)).2, { L with recs := L.recs ++ raw l, groups := L.groups + 1, size := L.size + (groupBytes (raw l)).length }) else ((S.commitRun L.name (raw l)).1, (S.commitRun L.name (raw l)).2, { L with broken := true }) by
          unfold St.commit; rw [if_neg (by simp [HBR.out]), if_neg (by rw [← longB_raw, HLG.out]; decide), if_neg HL0.out])
        clear hl0 hgb hnl hbb hbsz
        go_enter Tryz.func13, Tryz.ntmps13
        go_wp2_with fail
        refine (none_any _ HL.out.cells).mono ?_
        rintro e w1 ⟨rfl, rfl⟩
        go_wp2_with fail
        refine (containsFunc_any l _ _ HV.out (by omega) HS.out).mono ?_
        rintro e w1 ⟨rfl, rfl⟩
        rw [HLG.out]
        go_wp2_with fail
        refine (group_any l _ _ HV.out (by omega) (fun s hs => by have := HNL.out s hs; omega) (by have := HGB.out; omega)).mono ?_
        rintro e w1 ⟨rfl, hb1⟩
        rw [HBB.out]
        have HB1 := Lib.hid hb1
        have hp1 : w1.cell? ⟨w.heap.size, 0, none⟩ = some (.pointer (some ⟨g, 0, none⟩)) := cell_later (by rw [World.cell?_alloc_at _ _ _ _ rfl]; rfl) hb1
        have hap := HL.out.cells.apart HD.out
        clear hb1
        have HRUN := Lib.hid (show runSteps [fun T => T.append L.name b, fun T => T.sync L.name] S = S.commitRun L.name (raw l) by unfold St.commitRun; rw [HBB.out])
        go_wp2_with fail
        refine (commit_first HO.out (HD.out.later HB1.out) (HL.out.later HB1.out).cells (by rw [HBS.out]; have := HGB.out; omega) hp1 (by omega) (by omega)).mono ?_
        rintro e w2 ⟨rfl, hd2, hoW⟩
        have hsz1 := HB1.out.size
        have hq2 : w2.cell? ⟨w1.heap.size, 0, none⟩ = some (.string b) := only_cell hoW (commitW_text _ _ _) (by show w1.heap.size ≠ d; simp at hsz1; omega) (by show w1.heap.size ≠ m; simp at hsz1; omega)
        have ho2 : Only d m w1 w2 := (Only.of_below (commitW_below _ _ _)).trans hoW
        clear hoW
        rw [HRUN.out] at hd2 ⊢
        have hc : (S.commitRun L.name (raw l)).1 = 0 ∨ (S.commitRun L.name (raw l)).1 ≠ 0 := by omega
        generalize hR : S.commitRun L.name (raw l) = R at *
        obtain ⟨x, T⟩ := R
        have hp2 : w2.cell? ⟨w.heap.size, 0, none⟩ = some (.pointer (some ⟨g, 0, none⟩)) := only_cell ho2 hp1 (by show w.heap.size ≠ d; omega) (by show w.heap.size ≠ m; omega)
        have hIL2 : IsLog w2 base g d rv L := (HL.out.later HB1.out).only (HD.out.later HB1.out) ho2
        have HIL2 := Lib.hid hIL2
        have HD2 := Lib.hid hd2
        have HK2 := Lib.hid ((Keeps.of_below (d := d) (m := m) (g := g) (rv := rv) HA.out).trans ((Keeps.of_below HB1.out).trans (Keeps.of_only ho2)))
        have f5 := hIL2.cells.facts.2.2.2.2.2.2.1
        have hgl2 := hIL2.cells.facts.2.2.2.2.2.2.2
        have c5 := hIL2.cells.facts.2.2.2.2.2.1
        rcases hc with hc | hc
        · subst hc
          have HCE := Lib.hid (show S.commit L (raw l) = (0, T, { L with recs := L.recs ++ raw l, groups := L.groups + 1, size := L.size + (groupBytes (raw l)).length }) by rw [HCOM.out]; exact if_pos rfl)
          obtain ⟨recs0, hrec0, ht0⟩ := hIL2.rows
          have HSTART := Lib.hid (show TakeRel d m g base w.heap.size w1.heap.size rv L T l b w 0 w2 from ⟨rv, recs0, hIL2.cells, ht0, by rw [hrec0]; show _ = L.recs ++ []; rw [List.append_nil], HK2.out, hd2, hp2, hq2, (fun q => by have := (HKR.out _ q).2; omega), (fun q => by have := (HKR.out _ q).2; simp at hsz1; omega)⟩)
          clear hR hd2 hIL2 ht0 hrec0 hp2 hq2 f5 hgl2 c5
          go_wp2
          go_loopw [38] (fun iv wr => ∃ k : Nat, k ≤ l.length ∧ iv = .int .i64 (k : Int) ∧ TakeRel d m g base w.heap.size w1.heap.size rv L T l b w k wr) (fun iv _ => l.length - (intOf iv).toNat)
          case atStart => exact ⟨0, Nat.zero_le _, rfl, HSTART.out⟩
          case round =>
            obtain ⟨k, hk, rfl, rv', recs, hL', ht', hr', hK', hD', hp', hq', hvp, hvq⟩ := hrel
            have HREL := Lib.hid (show TakeRel d m g base w.heap.size w1.heap.size rv L T l b w k wr from ⟨rv', recs, hL', ht', hr', hK', hD', hp', hq', hvp, hvq⟩)
            by_cases hlt : k < l.length
            · have hvs := HVK.out wr rv' hK'
              rcases hvs.cases with ⟨h0, -⟩ | ⟨bl, off, cap', hv, -, -, hcells⟩
              · rw [h0] at hlt; exact absurd hlt (by simp)
              injection hv with hv1 _ hv3
              subst hv1 hv3
              have hcell := hcells k hlt
              have hss := HNL.out l[k] (List.getElem_mem hlt)
              have HKL := Lib.hid hlt
              generalize hsk : l[k] = s at *
              have HSK := Lib.hid hsk
              have hlr : recs.length ≤ 1200000 := by
                have e := congrArg List.length hr'
                unfold raw at e
                rw [List.length_append, List.length_map, List.length_map, List.length_take] at e
                omega
              have HT' := Lib.hid ht'
              have HL' := Lib.hid hL'
              have HBASE := Lib.hid (show base ≤ wr.heap.size from Nat.le_trans hb hK'.size)
              have hpg : w.heap.size ≠ g := by omega
              have hqg : w1.heap.size ≠ g := by simp at hsz1; omega
              have c2 := hL'.facts.2.2.1
              have HPUSH := Lib.hid (fun (w3 : World) (hb3 : Below wr.drew.heap.size wr.drew w3) => take_facts (w3 := w3) HKL.out HSK.out hL' ht' hr' hK' hD' hp' hq' hvp hvq hpg hqg hlr HBASE.out ((below_of_drew wr).trans hb3))
              clear hsk hcells hvs hL' ht' hr' hK' hD' hq' hvp hvq hpg hqg HREL
              have hs9 : s.size ≤ 281474976710656 := by omega
              go_wp2_with fail
              go_region_law
                (first
                  | (refine step_clone (by rfl) _ _ (by rfl) s (by rfl) hs9 ?_
                     intro w3 hb3
                     obtain ⟨ao, n', cap', w4, hrun, hp3, hp3a, c23, hgl3, hp4, c24, f24, hgl4, hst⟩ := HPUSH.out w3 hb3
                     have HR := Lib.hid hrun
                     have HST := Lib.hid hst
                     clear hrun hst hb3)
                  | (refine step_append_run (by rfl) _ _ _ (by rfl) _ _ _ _ (by rfl) (by rfl) HR.out ?_))
              all_goals
                go_wp2
                go_roundw
                case rel => exact ⟨k + 1, by have := HKL.out; omega, by go_num, HST.out⟩
                case measure => have := HKL.out; simp [intOf]; omega
            · have hkl : k = l.length := by omega
              have hr2 : raw recs = L.recs ++ raw l := by rw [hr', hkl, List.take_length]
              obtain ⟨-, -, -, c3, c4, -, fz, hglr⟩ := hL'.facts
              have f3 := fz 3
              have f4 := fz 4
              have hg1 : (L.groups : Int) ≤ 1000000 := by omega
              have hz1 : (L.size : Int) ≤ 1000000 := by omega
              have HBZ := Lib.hid (show (b.size : Int) = ((groupBytes (raw l)).length : Nat) by rw [HBS.out])
              have hbz : (b.size : Int) ≤ 7000000000 := by rw [HBZ.out]; have := HGB.out; omega
              have HFIN := Lib.hid (show IsLog ((wr.setCell ⟨g, 3, none⟩ (.int .i64 ((L.groups : Int) + 1))).drew.setCell ⟨g, 4, none⟩ (.int .i64 ((L.size : Int) + b.size))) base g d rv' { L with recs := L.recs ++ raw l, groups := L.groups + 1, size := L.size + (groupBytes (raw l)).length } from
                fin_log hL' ht' hr2 HBZ.out)
              have hpg : w.heap.size ≠ g := by omega
              have hqg : w1.heap.size ≠ g := by simp at hsz1; omega
              have p3 := cell_set (g := g) (i := 3) (v := .int .i64 ((L.groups : Int) + 1)) hp' hpg
              have q3 := cell_set (g := g) (i := 3) (v := .int .i64 ((L.groups : Int) + 1)) hq' hqg
              have hL3 : LogAt (wr.setCell ⟨g, 3, none⟩ (.int .i64 ((L.groups : Int) + 1))) g (.pointer (some ⟨d, 0, none⟩)) L.name rv' (L.groups + 1) L.size L.broken := setCell_row hL' _
              have c43 := hL3.facts.2.2.2.2.1
              have f43 := hL3.facts.2.2.2.2.2.2.1 4
              have g43 := hL3.facts.2.2.2.2.2.2.2
              have HFD := Lib.hid ((hD'.setLog 3 (.int .i64 ((L.groups : Int) + 1)) hap.1 hap.2).drew.setLog 4 (.int .i64 ((L.size : Int) + b.size)) hap.1 hap.2)
              have HFK := Lib.hid (hK'.trans ((Keeps.set wr 3 (.int .i64 ((L.groups : Int) + 1))).trans ((Keeps.of_below (below_of_drew _)).trans (Keeps.set _ 4 (.int .i64 ((L.size : Int) + b.size))))))
              clear hkl hr2 hL' ht' hr' hK' hD' hvp hvq HREL fz hap hL3 hpg hqg
              go_wp2_with fail
              go_region
              all_goals
                go_wp2
                go_ret
                rw [HCE.out]
                exact ⟨rfl, HFD.out, rv', HFIN.out, HFK.out⟩
        · have HX := Lib.hid hc
          have t1 : (x != 0) = true := by rw [bne_iff_ne]; exact hc
          have HCE := Lib.hid (show S.commit L (raw l) = (x, T, { L with broken := true }) by rw [HCOM.out]; exact if_neg hc)
          have HSB := Lib.hid hIL2.setBroken
          have HSD := Lib.hid (hd2.setLog (g := g) 5 (.bool true) hap.1 hap.2)
          have HSK := Lib.hid (HK2.out.trans (Keeps.set w2 5 (.bool true)))
          clear hc hR hd2 hIL2 hap
          go_wp2
          go_ret
          rw [HCE.out]
          exact ⟨rfl, HSD.out, rv, HSB.out, HSK.out⟩

end Go.Proofs.YtncpeaamfmfcgaaGreat
