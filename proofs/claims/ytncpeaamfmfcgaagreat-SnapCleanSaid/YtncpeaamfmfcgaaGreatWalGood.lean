/- (*wal.Log).good takes the groups at the front of a file's bytes. -/
import Derived.Test.YtncpeaamfmfcgaaGreatWalGroup
import Derived.Maps.RangeWalk
import Derived.Deep.Onto
namespace Go.Proofs.YtncpeaamfmfcgaaGreat
open Go.RowKit Go.Proofs.YtncpeaamfmfcgaaGreat.Sum

/-- What the groups at the front of frames come to: records, groups, bytes. -/
def goodGo : List (List UInt8) → List (List UInt8) → Nat → List (List UInt8) → Nat → Nat → List (List UInt8) × Nat × Nat
  | [], _, _, r, n, z => (r, n, z)
  | [] :: _, _, _, r, n, z => (r, n, z)
  | (c :: x) :: fs, op, at', r, n, z =>
    if c = 114 then goodGo fs (op ++ [x]) (at' + (x.length + 9)) r n z
    else if c = 99 then (if countOf x = some (op.length : Int) then goodGo fs [] (at' + (x.length + 9)) (r ++ op) (n + 1) (at' + (x.length + 9)) else (r, n, z))
    else (r, n, z)
def goodOf (b : List UInt8) : List (List UInt8) × Nat × Nat := goodGo (scan b).1 [] 0 [] 0 0

theorem frames_count (l : List (List UInt8)) : l.length * 8 ≤ (frames l).length := by
  induction l with
  | nil => simp
  | cons s l ih => simp only [frames, List.length_append, frame_length, List.length_cons]; omega

/-- A log's block. -/
def logCells (dv : Value) (name : ByteArray) (rv : Value) (n z : Nat) (br : Bool) : Array Value := #[dv, .string name, rv, .int .i64 (n : Int), .int .i64 (z : Int), .bool br]
def LogAt (w : World) (g : Nat) (dv : Value) (name : ByteArray) (rv : Value) (n z : Nat) (br : Bool) : Prop := w.heap[g]? = some (.cells (logCells dv name rv n z br) 27 (0, 0))

theorem LogAt.facts {w : World} {g : Nat} {dv : Value} {name : ByteArray} {rv : Value} {n z : Nat} {br : Bool} (h : LogAt w g dv name rv n z br) :
    w.cell? ⟨g, 0, none⟩ = some dv ∧ w.cell? ⟨g, 1, none⟩ = some (.string name) ∧ w.cell? ⟨g, 2, none⟩ = some rv ∧ w.cell? ⟨g, 3, none⟩ = some (.int .i64 (n : Int)) ∧ w.cell? ⟨g, 4, none⟩ = some (.int .i64 (z : Int)) ∧ w.cell? ⟨g, 5, none⟩ = some (.bool br) ∧
    (∀ i, w.frozen? ⟨g, i, none⟩ = false) ∧ g < w.heap.size := by
  refine ⟨?_, ?_, ?_, ?_, ?_, ?_, fun i => ?_, (Array.getElem?_eq_some_iff.1 h).1⟩ <;> simp [World.cell?, World.frozen?, show w.heap[g]? = _ from h, logCells]

theorem Texts.off {w : World} {g base : Nat} {dv : Value} {name : ByteArray} {rv v : Value} {n z : Nat} {br : Bool} {l : List ByteArray} (h : LogAt w g dv name rv n z br) (ht : Texts w base v l) : v.ownBlock ≠ some g := by
  rcases ht.2 with ⟨rfl, -⟩ | ⟨g', cap, cur, rfl, -, hg, -⟩
  · intro h; cases h
  · intro hq
    injection hq with hq
    have hq : g' = g := hq
    subst hq
    have h' : w.heap[g']? = _ := h
    rw [h'] at hg
    injection hg with hg
    injection hg with _ h2 _
    exact absurd h2 (by decide)

theorem Texts.kept' {w w' : World} {base : Nat} {v : Value} {l : List ByteArray} {g : Nat} (h : Texts w base v l) (hg : w.grownBy w' (some g)) (hv : v.ownBlock ≠ some g) : Texts w' base v l := World.ownsRow.kept h hg (.inr hv)

/-- What holds at a round's head: k frames were read, a bytes, the texts of v6 are open. -/
def GoodRel (w1 : World) (base g : Nat) (dv : Value) (name : ByteArray) (fl : List ByteArray) (k a : Nat) (v6 : Value) (wr : World) : Prop :=
  ∃ (rv : Value) (recs opl : List ByteArray) (n z : Nat), LogAt wr g dv name rv n z false ∧ Texts wr base rv recs ∧ Texts wr base v6 opl ∧ (∀ q, v6.ownBlock = some q → rv.ownBlock ≠ some q) ∧ w1.grownBy wr (some g) ∧
    opl.length + recs.length ≤ k ∧ n ≤ k ∧ a = (frames (raw (fl.take k))).length ∧ goodGo ((raw fl).drop k) (raw opl) a (raw recs) n z = goodGo (raw fl) [] 0 [] 0 0
/-- What good leaves. -/
def GoodEnd (w : World) (g : Nat) (dv : Value) (name : ByteArray) (o : List (List UInt8) × Nat × Nat) (w' : World) : Prop :=
  ∃ rv recs, raw recs = o.1 ∧ LogAt w' g dv name rv o.2.1 o.2.2 false ∧ Texts w' w.heap.size rv recs ∧ w.grownBy w' (some g)

theorem goodEnd_of {w w1 wr w' : World} {g : Nat} {dv : Value} {name : ByteArray} {fl : List ByteArray} {rv : Value} {recs opl : List ByteArray} {n z a k : Nat} (hL : LogAt wr g dv name rv n z false) (hr : Texts wr w1.heap.size rv recs) (hg : w1.grownBy wr (some g))
    (hb : Below w.heap.size w w1) (hb' : Below wr.heap.size wr w') (hgo : goodGo ((raw fl).drop k) (raw opl) a (raw recs) n z = goodGo (raw fl) [] 0 [] 0 0) (hend : goodGo ((raw fl).drop k) (raw opl) a (raw recs) n z = (raw recs, n, z)) : GoodEnd w g dv name (goodGo (raw fl) [] 0 [] 0 0) w' := by
  rw [← hgo, hend]
  refine ⟨rv, recs, rfl, ?_, (hr.later hb').mono hb.size, ?_⟩
  · exact (hb'.block g hL.facts.2.2.2.2.2.2.2).trans hL
  · have h1 := grown_of_below hb
    have h2 := grown_of_below hb'
    exact (h1.but _).trans (hg.trans (h2.but _))

theorem step_append_run {P : Program} {w : World} {ops : Array Oper} {o : Oper} {a : Act} {K : Act → World → Prop} {Q : Exit → Act → World → Prop} {E : Prop} (hgd : o.guard = none) (s x : Operand) (t : TypeId)
    (ho : o.op = .call { callee := .builtin .append, args := #[s, x], argTypes := #[t, t] }) (u v u' : Value) (w' : World) (hs : a.eval s = u) (hx : a.eval x = v)
    (hrun : (Builtin.append_ #[t, t] o.type #[u, v]).run P w = .ok u' w') (h : K (a.put o.dst u') w') : if Region.wanted o (yielded ops a.tmps) = true then Oper.wp P o a w K Q else E := by
  have hw : Region.wanted o (yielded ops a.tmps) = true := by simp [Region.wanted, hgd]
  rw [if_pos hw]
  unfold Oper.wp
  simp [execOp, ho, resolve, invoke, builtin, hs, hx, hrun, Result.andThen]
  exact h

theorem LogAt.grown {w w' : World} {g : Nat} {dv : Value} {name : ByteArray} {rv : Value} {n z : Nat} {br : Bool} {row : Option Nat} (h : LogAt w g dv name rv n z br) (hg : w.grownBy w' row) (hr : row ≠ some g) : LogAt w' g dv name rv n z br :=
  (hg.block g h.facts.2.2.2.2.2.2.2 (fun q => hr q.symm)).trans h

theorem raw_drop (fl : List ByteArray) (k : Nat) (h : k < fl.length) : (raw fl).drop k = fl[k].data.toList :: (raw fl).drop (k + 1) := by
  have h' : k < (raw fl).length := by unfold raw; rw [List.length_map]; exact h
  rw [List.drop_eq_getElem_cons h']
  congr 1
  simp [raw]
theorem frames_take (fl : List ByteArray) (k : Nat) (h : k < fl.length) : (frames (raw (fl.take (k + 1)))).length = (frames (raw (fl.take k))).length + (fl[k].size + 8) := by
  rw [raw_take fl k h, frames_append, frames_one, List.length_append, frame_length, Lib.size_eq]
theorem frames_le (fl : List ByteArray) (k : Nat) (h : k < fl.length) : (frames (raw (fl.take k))).length + (fl[k].size + 8) ≤ (frames (raw fl)).length := by
  have := take_frames fl k h
  rw [frame_length] at this
  rw [Lib.size_eq]; exact this

theorem head_cons (s : ByteArray) (h : 0 < s.size) : s.data.toList = s[0] :: (s.extract 1 s.size).data.toList := by
  rw [extract_from]
  have h' : 0 < s.data.toList.length := by rw [← Lib.size_eq]; exact h
  have := List.drop_eq_getElem_cons h'
  rw [List.drop_zero] at this
  exact this

/-- A record's frame was read: what holds behind the append. -/
theorem rel_open {w1 wr w2 w3 : World} {g : Nat} {dv : Value} {name : ByteArray} {rv v6 v6' : Value} {recs opl opl' : List ByteArray} {n z : Nat} (hL : LogAt wr g dv name rv n z false) (hr : Texts wr w1.heap.size rv recs) (ho : Texts wr w1.heap.size v6 opl)
    (hne : ∀ q, v6.ownBlock = some q → rv.ownBlock ≠ some q) (hg : w1.grownBy wr (some g)) (hb : Below wr.heap.size wr w2) (ho' : Texts w3 w1.heap.size v6' opl') (hg3 : w2.grownBy w3 v6.ownBlock) (hblk : v6'.ownBlock = v6.ownBlock ∨ v6'.ownBlock = some (w2.heap.size + 1)) :
    LogAt w3 g dv name rv n z false ∧ Texts w3 w1.heap.size rv recs ∧ Texts w3 w1.heap.size v6' opl' ∧ (∀ q, v6'.ownBlock = some q → rv.ownBlock ≠ some q) ∧ w1.grownBy w3 (some g) := by
  have hL2 : LogAt w2 g dv name rv n z false := (hb.block g hL.facts.2.2.2.2.2.2.2).trans hL
  have hr2 := hr.later hb
  refine ⟨hL2.grown hg3 (ho.off hL), hr2.kept hg3 ?_, ho', fun q hq => ?_, (hg.trans ((grown_of_below hb).but _)).andThen hg3 fun j hj => .inl (World.ownsRow.lt ho j hj).1⟩
  · rcases hrv : rv.ownBlock with _ | q
    · exact .inl rfl
    · exact .inr fun h => hne q h.symm hrv
  · rcases hblk with h | h
    · exact hne q (h.symm.trans hq)
    · rw [h] at hq
      injection hq with hq
      intro hrv
      have := (World.ownsRow.lt hr2 q hrv).2
      omega

theorem grown_set (w : World) (g i : Nat) (v : Value) : w.grownBy (w.setCell ⟨g, i, none⟩ v) (some g) := ⟨rfl, rfl, rfl, by simp [World.setCell], fun k _ hne => Below.heap_setCell _ _ _ _ fun q => hne (by rw [q])⟩
theorem grown_drew (w : World) (row : Option Nat) : w.grownBy w.drew row := ⟨rfl, rfl, rfl, Nat.le_refl _, fun _ _ _ => rfl⟩

/-- A marker's frame was read: what holds behind the stores. -/
theorem rel_mark {w1 wr w3 w4 : World} {g : Nat} {dv : Value} {name : ByteArray} {rv nv : Value} {recs l : List ByteArray} {n z : Nat} {x : Int} {a : Nat} (hL : LogAt w4 g dv name rv n z false) (hr : Texts wr w1.heap.size rv recs) (hg : w1.grownBy wr (some g)) (hb : Below wr.heap.size wr w3)
    (hg4 : w3.drew.grownBy w4 rv.ownBlock) (ho : Texts w4 w1.heap.size nv l) (hx : x = (a : Int)) :
    LogAt (((w4.setCell ⟨g, 2, none⟩ nv).setCell ⟨g, 3, none⟩ (.int .i64 ((n : Int) + 1))).setCell ⟨g, 4, none⟩ (.int .i64 x)) g dv name nv (n + 1) a false ∧
    Texts (((w4.setCell ⟨g, 2, none⟩ nv).setCell ⟨g, 3, none⟩ (.int .i64 ((n : Int) + 1))).setCell ⟨g, 4, none⟩ (.int .i64 x)) w1.heap.size nv l ∧
    w1.grownBy (((w4.setCell ⟨g, 2, none⟩ nv).setCell ⟨g, 3, none⟩ (.int .i64 ((n : Int) + 1))).setCell ⟨g, 4, none⟩ (.int .i64 x)) (some g) := by
  subst hx
  have hoff := ho.off hL
  have hs := ((grown_set w4 g 2 nv).trans (grown_set _ g 3 (.int .i64 ((n : Int) + 1)))).trans (grown_set _ g 4 (.int .i64 (a : Int)))
  refine ⟨?_, ho.kept' hs hoff, ?_⟩
  · have h1 := setCell_row (setCell_row (setCell_row (i := 2) hL nv) (i := 3) (.int .i64 ((n : Int) + 1))) (i := 4) (.int .i64 (a : Int))
    exact h1
  · exact (((hg.trans ((grown_of_below hb).but _)).trans (grown_drew w3 _)).andThen hg4 fun j hj => .inl (World.ownsRow.lt hr j hj).1).trans hs

theorem goodGo_rec {s : ByteArray} {x : List UInt8} (hs : s.data.toList = 114 :: x) (fs op : List (List UInt8)) (a : Nat) (r : List (List UInt8)) (n z : Nat) : goodGo (s.data.toList :: fs) op a r n z = goodGo fs (op ++ [x]) (a + (s.size + 8)) r n z := by
  rw [Lib.size_eq, hs]; simp [goodGo]
theorem goodGo_mark {s : ByteArray} {x : List UInt8} (hs : s.data.toList = 99 :: x) (fs op : List (List UInt8)) (a : Nat) (r : List (List UInt8)) (n z : Nat) (hc : countOf x = some (op.length : Int)) : goodGo (s.data.toList :: fs) op a r n z = goodGo fs [] (a + (s.size + 8)) (r ++ op) (n + 1) (a + (s.size + 8)) := by
  rw [Lib.size_eq, hs]; simp [goodGo, hc]
theorem goodGo_bad {s : ByteArray} {x : List UInt8} (hs : s.data.toList = 99 :: x) (fs op : List (List UInt8)) (a : Nat) (r : List (List UInt8)) (n z : Nat) (hc : countOf x ≠ some (op.length : Int)) : goodGo (s.data.toList :: fs) op a r n z = (r, n, z) := by
  rw [hs]; simp [goodGo, hc]
theorem goodGo_else {s : ByteArray} {c : UInt8} {x : List UInt8} (hs : s.data.toList = c :: x) (fs op : List (List UInt8)) (a : Nat) (r : List (List UInt8)) (n z : Nat) (h1 : c ≠ 114) (h2 : c ≠ 99) : goodGo (s.data.toList :: fs) op a r n z = (r, n, z) := by
  rw [hs]; simp [goodGo, h1, h2]
theorem goodGo_none {s : ByteArray} (hs : s.size = 0) (fs op : List (List UInt8)) (a : Nat) (r : List (List UInt8)) (n z : Nat) : goodGo (s.data.toList :: fs) op a r n z = (r, n, z) := by
  rw [Lib.size_eq] at hs
  rw [List.eq_nil_of_length_eq_zero hs]; rfl

set_option maxRecDepth 100000 in
set_option maxHeartbeats 8000000 in
theorem good_any (g : Nat) (dv : Value) (name b : ByteArray) (w : World) (h : LogAt w g dv name (.slice none 0 0) 0 0 false) (hb : b.size ≤ 1000000) :
    Calls Tryz.prog 38 #[.pointer (some ⟨g, 0, none⟩), .string b] w fun e w' => e = .returned (.tuple #[]) ∧ GoodEnd w g dv name (goodOf b.data.toList) w' := by
  have HL := Lib.hid h
  clear h
  go_enter Tryz.func38, Tryz.ntmps38
  go_wp2_with fail
  refine (scan_own b _ (by omega)).mono ?_
  rintro e w1 ⟨fv, rfl, hb1, fl, hfl, hown⟩
  have hfT : Texts w1 w.heap.size fv fl := hown
  have hL1 : LogAt w1 g dv name (.slice none 0 0) 0 0 false := (hb1.block g HL.out.facts.2.2.2.2.2.2.2).trans HL.out
  have hoff := hfT.off hL1
  have hfr := (scan_spec b.data.toList).2.2.2
  rw [← hfl] at hfr
  have hle := (scan_spec b.data.toList).2.1
  rw [← Lib.size_eq] at hle
  have HGF := Lib.hid (show goodOf b.data.toList = goodGo (raw fl) [] 0 [] 0 0 by unfold goodOf; rw [hfl])
  obtain ⟨fa, cap, hfv, -⟩ := hfT.strs.shape
  subst hfv
  have HFT := Lib.hid hfT
  have HL1 := Lib.hid hL1
  have HB1 := Lib.hid hb1
  have HOFF := Lib.hid hoff
  have HTOT := Lib.hid (show (frames (raw fl)).length ≤ 1000000 by omega)
  have hfl8 : fl.length ≤ 1000000 := by
    have := frames_count (raw fl)
    have e : (raw fl).length = fl.length := by unfold raw; rw [List.length_map]
    have := HTOT.out
    omega
  have HFSZ := Lib.hid (show ∀ s ∈ fl, s.size ≤ 60000 by
    intro s hs
    have := (scan_spec b.data.toList).2.2.1 s.data.toList (by rw [← hfl]; unfold raw; exact List.mem_map.2 ⟨s, hs, rfl⟩)
    rw [Lib.size_eq]; exact this)
  clear hfT hL1 hb1 hoff hown hfl hfr hle
  go_wp2
  go_loopw [6, 7, 19] (fun v6 av iv wr => ∃ k a : Nat, k ≤ fl.length ∧ iv = .int .i64 (k : Int) ∧ av = .int .i64 (a : Int) ∧ GoodRel w1 w1.heap.size g dv name fl k a v6 wr) (fun _ _ iv _ => fl.length - (intOf iv).toNat)
  case atStart => exact ⟨0, 0, Nat.zero_le _, rfl, rfl, _, [], [], 0, 0, HL1.out, Texts.nil _ _, Texts.nil _ _, (fun _ h => by cases h), ⟨rfl, rfl, rfl, Nat.le_refl _, fun _ _ _ => rfl⟩, Nat.le_refl _, Nat.le_refl _, rfl, rfl⟩
  case round =>
    obtain ⟨k, a, hk, rfl, rfl, rv, recs, opl, n, z, hL, hrt, hot, hne, hgr, hlen, hnk, ha, hgo⟩ := hrel
    have HLr := Lib.hid hL
    have HRT := Lib.hid hrt
    have HOT := Lib.hid hot
    have HNE := Lib.hid hne
    have HGR := Lib.hid hgr
    have HGO := Lib.hid hgo
    have HA := Lib.hid ha
    clear hL hrt hot hne hgr hgo ha
    by_cases hlt : k < fl.length
    · have hfs := (HFT.out.kept' HGR.out HOFF.out).strs
      rcases hfs.cases with ⟨h0, -⟩ | ⟨bl, off, cap', hv, -, ⟨hbl, -⟩, hcells⟩
      · rw [h0] at hlt; exact absurd hlt (by simp)
      injection hv with hv1 _ hv3
      subst hv1 hv3
      have hcell := hcells k hlt
      have hsz := HFSZ.out fl[k] (List.getElem_mem hlt)
      have HDR := Lib.hid (raw_drop fl k hlt)
      have HTK := Lib.hid (frames_take fl k hlt)
      have HLE := Lib.hid (frames_le fl k hlt)
      generalize fl[k] = s at *
      clear hcells hfs hbl
      have hcr := frame_any [s] (.slice (some ⟨wr.heap.size, 0, none⟩) 1 1) (wr.alloc (.cells #[.string s] 9)) (strs_one _ s _) (by simp) (by intro x hx; obtain rfl := List.mem_singleton.1 hx; omega) (by show (frames [s.data.toList]).length ≤ _; rw [frames_one, frame_length, ← Lib.size_eq]; omega)
      have HCR := Lib.hid hcr
      have hfsz : (⟨(frames (raw [s])).toArray⟩ : ByteArray).size = s.size + 8 := by
        rw [Lib.size_eq]
        show (frames [s.data.toList]).toArray.toList.length = _
        rw [frames_one, List.toList_toArray, frame_length, ← Lib.size_eq]
      have HFS := Lib.hid hfsz
      have ha1 : (a : Int) ≤ 1000000 := by have := HLE.out; have := HTOT.out; have := HA.out; omega
      clear hcr hfsz
      go_wp2_with fail
      refine HCR.out.mono ?_
      rintro e w2 ⟨rfl, hb2⟩
      have HB2 := Lib.hid (show Below wr.heap.size wr w2 from (below_alloc (Below.refl _ wr) _).trans (hb2.mono (by simp)))
      have hfsz := HFS.out
      clear hb2
      have HDONE := Lib.hid (fun (W : World) (hW : Below wr.heap.size wr W) => goodEnd_of (w := w) HLr.out HRT.out HGR.out HB1.out hW HGO.out)
      by_cases hs0 : s.size = 0
      · have HE := Lib.hid (HDONE.out w2 HB2.out (by rw [HDR.out]; exact goodGo_none hs0 ..))
        obtain rfl : s = ⟨#[]⟩ := ByteArray.ext (Array.eq_empty_of_size_eq_zero hs0)
        clear hs0
        go_wp2
        refine bodyPost_ret (results_none rfl _ _ _) rfl ?_
        exact ⟨rfl, by rw [HGF.out]; exact HE.out⟩
      · have hs1 : 0 < s.size := by omega
        have hs1' : (1 : Int) ≤ s.size := by omega
        have hem : s.toList.isEmpty = false := by
          rw [ByteArray.toList_eq, List.isEmpty_eq_false_iff]
          intro h; rw [Lib.size_eq, h] at hs0; exact hs0 rfl
        have HC := Lib.hid (head_cons s hs1)
        clear hs0
        by_cases h114 : s[0] = 114
        · have HC' := HC.out
          rw [h114] at HC'
          have HC' := Lib.hid HC'
          have t1 : ((s[0].toNat : Int) == 114) = true := by rw [h114]; rfl
          obtain ⟨ao, n', cap', w3, hrun, ht', hg', hblk⟩ := push_text (HOT.out.later HB2.out) (s.extract 1 s.size) (by omega) (Nat.le_trans HGR.out.size HB2.out.size)
          have HR := Lib.hid hrun
          have HREL := Lib.hid (rel_open HLr.out HRT.out HOT.out HNE.out HGR.out HB2.out ht' hg' hblk)
          clear hrun ht' hg' hblk h114
          go_wp2_with (at_builtin; refine wpList_append_run rfl _ _ _ rfl _ _ _ _ rfl rfl HR.out ?_)
          go_roundw
          case rel =>
            obtain ⟨q1, q2, q3, q4, q5⟩ := HREL.out
            refine ⟨k + 1, a + (s.size + 8), by omega, by go_num, by go_num, rv, recs, opl ++ [s.extract 1 s.size], n, z, q1, q2, q3, q4, q5, by rw [List.length_append]; simp; omega, by omega, by rw [HTK.out, HA.out], ?_⟩
            have e := HGO.out
            rw [HDR.out, goodGo_rec HC'.out] at e
            rw [show raw (opl ++ [s.extract 1 s.size]) = raw opl ++ [(s.extract 1 s.size).data.toList] from List.map_append ..]
            exact e
          case measure => simp [intOf]; omega
        · have t1 : ((s[0].toNat : Int) == 114) = false := by
            rw [beq_eq_false_iff_ne]; intro h; apply h114; apply UInt8.toNat_inj.1; show s[0].toNat = 114; omega
          by_cases h99 : s[0] = 99
          · have t2 : ((s[0].toNat : Int) == 99) = true := by rw [h99]; rfl
            have HC' := HC.out
            rw [h99] at HC'
            have HC' := Lib.hid HC'
            clear h114 h99
            go_wp2_with fail
            refine (count_any s _ hs1 (by omega)).mono ?_
            rintro e w3 ⟨⟨v, bb, rfl, hout⟩, hb3⟩
            have HB3 := Lib.hid (below_step HB2.out hb3)
            clear hb3
            obtain ⟨oa, ocap, hov, -⟩ := HOT.out.strs.shape
            subst hov
            have HX := Lib.hid (show s.data.toList.drop 1 = (s.extract 1 s.size).data.toList from (extract_from s 1).symm)
            have hol : (raw opl).length = opl.length := List.length_map ..
            by_cases hcount : countOf (s.data.toList.drop 1) = some (opl.length : Int)
            · rw [hcount] at hout
              obtain ⟨rfl, rfl⟩ := hout
              rw [HX.out] at hcount
              have HGM := Lib.hid (goodGo_mark HC'.out ((raw fl).drop (k + 1)) (raw opl) a (raw recs) n z (by rw [hol]; exact hcount))
              clear hcount hol
              have hrT := HRT.out.later HB3.out
              have hoT := HOT.out.later HB3.out
              have hLT : LogAt w3 g dv name rv n z false := (HB3.out.block g HLr.out.facts.2.2.2.2.2.2.2).trans HLr.out
              obtain ⟨u', w4, hrun, hown4, hg4, -⟩ := run_append_texts w3.drew w1.heap.size 22 rv recs hrT _ opl hoT.strs (by omega) (Nat.le_trans HGR.out.size HB3.out.size)
              obtain ⟨ao, n', cap', rfl⟩ := own_slice hown4
              have HR := Lib.hid hrun
              have hL4 : LogAt w4 g dv name rv n z false := LogAt.grown (show LogAt w3.drew g dv name rv n z false from hLT) hg4 (hrT.off hLT)
              obtain ⟨-, -, c2, c3, c4, -, fz, hgl⟩ := hL4.facts
              have f2 := fz 2
              have f3 := fz 3
              have f4 := fz 4
              obtain ⟨-, -, d2, d3, -, -, -, -⟩ := hLT.facts
              have HL4 := Lib.hid hL4
              have HO4 := Lib.hid hown4
              have HG4 := Lib.hid hg4
              have HREL := Lib.hid (rel_mark (x := (a : Int) + ((s.size : Int) + 8)) (a := a + (s.size + 8)) HL4.out HRT.out HGR.out HB3.out HG4.out HO4.out (by omega))
              have hwn : IntKind.i64.wrap ((n : Int) + 1) = (n : Int) + 1 := IntWalk.i64_in _ (by omega)
              clear hrun hown4 hg4 hL4 hLT hrT hoT fz
              go_wp2_with fail
              go_region_law ((refine step_append_run (by rfl) _ _ _ (by rfl) _ _ _ _ (by rfl) (by rfl) HR.out ?_))
              all_goals
                go_wp2
                go_roundw
                case rel =>
                  obtain ⟨q1, q2, q3⟩ := HREL.out
                  refine ⟨k + 1, a + (s.size + 8), by omega, by go_num, by go_num, _, recs ++ opl, [], n + 1, a + (s.size + 8), q1, q2, Texts.nil _ _, (fun _ h => by cases h), q3, by rw [List.length_append]; simp; omega, by omega, by rw [HTK.out, HA.out], ?_⟩
                  have e := HGO.out
                  rw [HDR.out, HGM.out] at e
                  rw [show raw (recs ++ opl) = raw recs ++ raw opl from List.map_append ..]
                  exact e
                case measure => simp [intOf]; omega
            · have HBAD := Lib.hid (HDONE.out w3 HB3.out (by rw [HDR.out]; exact goodGo_bad HC'.out _ _ _ _ _ _ (by rw [hol, ← HX.out]; exact hcount)))
              rcases hcv : countOf (s.data.toList.drop 1) with _ | m
              · rw [hcv] at hout
                have hout : bb = false := hout
                subst hout
                clear hcv hcount hol
                go_wp2
                refine bodyPost_ret (results_none rfl _ _ _) rfl ?_
                exact ⟨rfl, by rw [HGF.out]; exact HBAD.out⟩
              · rw [hcv] at hout
                obtain ⟨rfl, rfl⟩ := hout
                have t3 : (v != (opl.length : Int)) = true := by
                  rw [bne_iff_ne]; intro h; apply hcount; rw [hcv, h]
                clear hcv hcount hol
                go_wp2
                refine bodyPost_ret (results_none rfl _ _ _) rfl ?_
                exact ⟨rfl, by rw [HGF.out]; exact HBAD.out⟩
          · have t2 : ((s[0].toNat : Int) == 99) = false := by
              rw [beq_eq_false_iff_ne]; intro h; apply h99; apply UInt8.toNat_inj.1; show s[0].toNat = 99; omega
            have HE := Lib.hid (HDONE.out w2 HB2.out (by rw [HDR.out]; exact goodGo_else HC.out _ _ _ _ _ _ h114 h99))
            clear h114 h99
            go_wp2
            refine bodyPost_ret (results_none rfl _ _ _) rfl ?_
            exact ⟨rfl, by rw [HGF.out]; exact HE.out⟩
    · have hkl : k = fl.length := by omega
      have HEND := Lib.hid (goodEnd_of (w := w) HLr.out HRT.out HGR.out HB1.out (Below.refl _ _) HGO.out (by rw [hkl, List.drop_eq_nil_of_le (by unfold raw; rw [List.length_map]; exact Nat.le_refl _)]; rfl))
      clear hkl
      go_wp2
      go_end0
      exact ⟨rfl, by rw [HGF.out]; exact HEND.out⟩

end Go.Proofs.YtncpeaamfmfcgaaGreat
