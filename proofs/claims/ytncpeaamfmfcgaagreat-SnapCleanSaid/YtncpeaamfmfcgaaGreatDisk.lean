/- A disk in memory, as a plain state; what each of disk's small functions does to it. -/
import Derived.Test.YtncpeaamfmfcgaaGreatMap
import Derived.Laws.Pointers
import Derived.Deep.RegionHeld3
namespace Go.Proofs.YtncpeaamfmfcgaaGreat
open Go.RowKit

/-- A disk's state. -/
structure St where
  on : Bool
  fused : Bool
  left : Int
  ops : Nat
  files : List FE
  clock : Nat

def St.cells (S : St) (m : Nat) : Array Value := #[.bool S.on, .bool S.fused, .int .i64 S.left, .int .i64 (S.ops : Int), .map (some m)]

/-- Block d is a disk, and block m its map. -/
structure IsDisk (w : World) (d m : Nat) (S : St) : Prop where
  cells : w.heap[d]? = some (.cells (S.cells m) 47 (0, 0))
  map : w.heap[m]? = some (mapOf S.files S.clock)

/-- Nothing of what was there has turned, but for the blocks d and m. -/
structure Only (d m : Nat) (w w' : World) : Prop where
  os : w'.os = w.os
  tape : w'.tape = w.tape
  output : w'.output = w.output
  size : w.heap.size ≤ w'.heap.size
  block : ∀ k, k < w.heap.size → k ≠ d → k ≠ m → w'.heap[k]? = w.heap[k]?

theorem Only.refl (d m : Nat) (w : World) : Only d m w w := ⟨rfl, rfl, rfl, Nat.le_refl _, fun _ _ _ _ => rfl⟩
theorem Only.trans {d m : Nat} {a b c : World} (h : Only d m a b) (k : Only d m b c) : Only d m a c :=
  ⟨k.os.trans h.os, k.tape.trans h.tape, k.output.trans h.output, Nat.le_trans h.size k.size, fun i hi hd hm => (k.block i (Nat.lt_of_lt_of_le hi h.size) hd hm).trans (h.block i hi hd hm)⟩
theorem Only.of_below {d m : Nat} {w w' : World} (h : Below w.heap.size w w') : Only d m w w' := ⟨h.os, h.tape, h.output, h.size, fun k hk _ _ => h.block k hk⟩
theorem Only.alloc {d m : Nat} {w w' : World} (h : Only d m w w') (o : Obj) : Only d m w (w'.alloc o) :=
  h.trans (Only.of_below ((Below.refl _ _).alloc (Nat.le_refl _) o))
theorem Only.setCell {d m : Nat} {w w' : World} (h : Only d m w w') (i : Nat) (v : Value) : Only d m w (w'.setCell ⟨d, i, none⟩ v) :=
  h.trans ⟨rfl, rfl, rfl, by simp [World.setCell], fun k _ hd _ => Below.heap_setCell _ _ _ _ hd⟩
theorem Only.put {d m : Nat} {w w' : World} (h : Only d m w w') (o : Obj) : Only d m w (World.put w' m o) :=
  h.trans ⟨rfl, rfl, rfl, by rw [put_size]; exact Nat.le_refl _, fun k _ _ hm => put_other _ _ _ _ hm⟩
theorem Only.drawn {d m : Nat} {w w' : World} (h : Only d m w w') (n : Nat) : Only d m w (w'.drewN n) := ⟨h.os, h.tape, h.output, h.size, h.block⟩
/-- A call's own disk: below it nothing has turned. -/
theorem Only.below {d m B : Nat} {w0 w w' : World} (h : Only d m w w') (h0 : Below B w0 w) (hB : B ≤ w.heap.size) (hd : B ≤ d) (hm : B ≤ m) : Below B w0 w' :=
  h0.trans ⟨h.os, h.tape, h.output, h.size, fun k hk => h.block k (by omega) (by omega) (by omega)⟩

theorem IsDisk.lt {w : World} {d m : Nat} {S : St} (h : IsDisk w d m S) : d < w.heap.size ∧ m < w.heap.size :=
  ⟨(Array.getElem?_eq_some_iff.1 h.cells).1, (Array.getElem?_eq_some_iff.1 h.map).1⟩
theorem IsDisk.ne {w : World} {d m : Nat} {S : St} (h : IsDisk w d m S) : d ≠ m := by
  intro e; have h1 := h.cells; rw [e, h.map] at h1; cases h1
theorem IsDisk.later {w w' : World} {d m : Nat} {S : St} (h : IsDisk w d m S) (hb : Below w.heap.size w w') : IsDisk w' d m S :=
  ⟨(hb.block d h.lt.1).trans h.cells, (hb.block m h.lt.2).trans h.map⟩
theorem IsDisk.cell {w : World} {d m : Nat} {S : St} (h : IsDisk w d m S) (i : Nat) : w.cell? ⟨d, i, none⟩ = (S.cells m)[i]? := by
  simp [World.cell?, h.cells]
theorem IsDisk.free {w : World} {d m : Nat} {S : St} (h : IsDisk w d m S) (i : Nat) : w.frozen? ⟨d, i, none⟩ = false := by
  simp [World.frozen?, h.cells]
theorem IsDisk.facts {w : World} {d m : Nat} {S : St} (h : IsDisk w d m S) :
    w.cell? ⟨d, 0, none⟩ = some (.bool S.on) ∧ w.cell? ⟨d, 1, none⟩ = some (.bool S.fused) ∧ w.cell? ⟨d, 2, none⟩ = some (.int .i64 S.left) ∧ w.cell? ⟨d, 3, none⟩ = some (.int .i64 (S.ops : Int)) ∧ w.cell? ⟨d, 4, none⟩ = some (.map (some m)) ∧
    w.frozen? ⟨d, 0, none⟩ = false ∧ w.frozen? ⟨d, 1, none⟩ = false ∧ w.frozen? ⟨d, 2, none⟩ = false ∧ w.frozen? ⟨d, 3, none⟩ = false ∧ w.frozen? ⟨d, 4, none⟩ = false :=
  ⟨h.cell 0, h.cell 1, h.cell 2, h.cell 3, h.cell 4, h.free 0, h.free 1, h.free 2, h.free 3, h.free 4⟩

theorem setCell_row {w : World} {d i : Nat} {cs : Array Value} {t : TypeId} (h : w.heap[d]? = some (.cells cs t (0, 0))) (v : Value) : (w.setCell ⟨d, i, none⟩ v).heap[d]? = some (.cells (cs.setIfInBounds i v) t (0, 0)) := by
  simp [World.setCell, Array.getElem?_modify, h]

theorem IsDisk.setOn {w : World} {d m : Nat} {S : St} (h : IsDisk w d m S) (b : Bool) : IsDisk (w.setCell ⟨d, 0, none⟩ (.bool b)) d m { S with on := b } :=
  ⟨setCell_row h.cells _, (Below.heap_setCell _ _ _ _ (Ne.symm h.ne)).trans h.map⟩
theorem IsDisk.setFused {w : World} {d m : Nat} {S : St} (h : IsDisk w d m S) (b : Bool) : IsDisk (w.setCell ⟨d, 1, none⟩ (.bool b)) d m { S with fused := b } :=
  ⟨setCell_row h.cells _, (Below.heap_setCell _ _ _ _ (Ne.symm h.ne)).trans h.map⟩
theorem IsDisk.setLeft {w : World} {d m : Nat} {S : St} (h : IsDisk w d m S) (n : Int) : IsDisk (w.setCell ⟨d, 2, none⟩ (.int .i64 n)) d m { S with left := n } :=
  ⟨setCell_row h.cells _, (Below.heap_setCell _ _ _ _ (Ne.symm h.ne)).trans h.map⟩
theorem IsDisk.setOps {w : World} {d m : Nat} {S : St} (h : IsDisk w d m S) (n : Nat) : IsDisk (w.setCell ⟨d, 3, none⟩ (.int .i64 (n : Int))) d m { S with ops := n } :=
  ⟨setCell_row h.cells _, (Below.heap_setCell _ _ _ _ (Ne.symm h.ne)).trans h.map⟩
theorem IsDisk.setFiles {w : World} {d m : Nat} {S : St} (h : IsDisk w d m S) (l : List FE) (c : Nat) : IsDisk (World.put w m (mapOf l c)) d m { S with files := l, clock := c } :=
  ⟨(put_other _ _ _ _ h.ne).trans h.cells, put_same _ _ _ h.lt.2⟩

theorem ret_bool {a b : Bool} (h : a = b) : Ending.returned (.bool a) = .returned (.bool b) := by rw [h]

/-! ### Small functions -/
def validB (s : ByteArray) : Bool := decide (s.size ≠ 0 ∧ s.size ≤ 40)

set_option maxHeartbeats 1000000 in
theorem valid_any (s : ByteArray) (w : World) (hs : s.size ≤ 9223372036854775807) : Calls Tryz.prog 66 #[.string s] w fun e w' => e = .returned (.bool (validB s)) ∧ w = w' := by
  by_cases h0 : s.size = 0
  · have he : s = ⟨#[]⟩ := ByteArray.ext (Array.eq_empty_of_size_eq_zero h0)
    subst he
    go_enter Tryz.func66, Tryz.ntmps66
    go_wp2
    go_ret
    exact ⟨rfl, rfl⟩
  · have hq : (s.toList == []) = false := by
      rw [ByteArray.toList_eq, beq_eq_false_iff_ne]
      intro h; apply h0; rw [Lib.size_eq, h]; rfl
    have hq2 : s.toList = [] ↔ False := by simpa using hq
    have HV := Lib.hid (show decide ((s.size : Int) ≤ 40) = validB s by unfold validB; simp only [decide_eq_decide]; omega)
    go_enter Tryz.func66, Tryz.ntmps66
    go_wp2
    go_ret
    exact ⟨ret_bool HV.out, rfl⟩

set_option maxHeartbeats 1000000 in
theorem off_any (d m : Nat) (S : St) (w : World) (h : IsDisk w d m S) : Calls Tryz.prog 50 #[.pointer (some ⟨d, 0, none⟩)] w fun e w' => e = .returned (.bool (!S.on)) ∧ w = w' := by
  obtain ⟨c0, -⟩ := h.facts
  go_enter Tryz.func50, Tryz.ntmps50
  go_wp2
  go_ret
  exact ⟨rfl, rfl⟩

/-- An operation is counted; does the power fail at it? -/
def St.op (S : St) : St := { S with ops := min (S.ops + 1) 4611686018427387904, left := if S.fused = true ∧ 0 < S.left then S.left - 1 else S.left, on := S.on && !(S.fused && !decide (0 < S.left)), fused := S.fused && decide (0 < S.left) }
def St.fails (S : St) : Bool := S.fused && !decide (0 < S.left)

set_option maxHeartbeats 1000000 in
theorem op_any (d m : Nat) (S : St) (w : World) (h : IsDisk w d m S) (hops : S.ops ≤ 4611686018427387904) (hleft : -9223372036854775808 ≤ S.left ∧ S.left ≤ 9223372036854775807) :
    Calls Tryz.prog 51 #[.pointer (some ⟨d, 0, none⟩)] w fun e w' => e = .returned (.bool S.fails) ∧ IsDisk w' d m S.op ∧ Only d m w w' := by
  obtain ⟨c0, c1, c2, c3, -, f0, f1, f2, f3, -⟩ := h.facts
  obtain ⟨on, fused, left, ops, files, clock⟩ := S
  have hlt := h.lt.1
  have HD := Lib.hid h
  clear h
  simp only at hops hleft
  obtain ⟨hleft1, hleft2⟩ := hleft
  have hc : (∃ n : Nat, n = ops + 1 ∧ (ops : Int) + 1 ≤ 4611686018427387904 ∧ min (ops + 1) 4611686018427387904 = n) ∨ ops = 4611686018427387904 := by
    rcases Nat.lt_or_ge ops 4611686018427387904 with h | h
    · exact .inl ⟨_, rfl, by omega, by omega⟩
    · exact .inr (by omega)
  have HR : Hid _ := fun n => HD.out.setOps n
  rcases hc with ⟨n, rfl, hn, hmin⟩ | rfl
  · have HM := Lib.hid hmin
    clear hmin
    cases fused
    · have HE := Lib.hid (show St.op ⟨on, false, left, ops, files, clock⟩ = ⟨on, false, left, ops + 1, files, clock⟩ by simp [St.op, HM.out])
      go_enter Tryz.func51, Tryz.ntmps51
      go_wp2
      go_ret
      rw [HE.out]
      exact ⟨rfl, HR (ops + 1), (Only.refl _ _ _).setCell 3 _⟩
    · by_cases hl : 0 < left
      · have HE := Lib.hid (show St.op ⟨on, true, left, ops, files, clock⟩ = ⟨on, true, left - 1, ops + 1, files, clock⟩ by simp [St.op, HM.out, hl])
        have HF := Lib.hid (show false = St.fails ⟨on, true, left, ops, files, clock⟩ by simp [St.fails, hl])
        go_enter Tryz.func51, Tryz.ntmps51
        go_wp2
        go_ret
        rw [HE.out]
        exact ⟨ret_bool HF.out, (HR (ops + 1)).setLeft (left - 1), ((Only.refl _ _ _).setCell 3 _).setCell 2 _⟩
      · have HE := Lib.hid (show St.op ⟨on, true, left, ops, files, clock⟩ = ⟨false, false, left, ops + 1, files, clock⟩ by simp [St.op, HM.out, hl])
        have HF := Lib.hid (show true = St.fails ⟨on, true, left, ops, files, clock⟩ by simp [St.fails, hl])
        go_enter Tryz.func51, Tryz.ntmps51
        go_wp2
        go_ret
        rw [HE.out]
        exact ⟨ret_bool HF.out, ((HR (ops + 1)).setOn false).setFused false, (((Only.refl _ _ _).setCell 3 _).setCell 0 _).setCell 1 _⟩
  · cases fused
    · have HE := Lib.hid (show St.op ⟨on, false, left, 4611686018427387904, files, clock⟩ = ⟨on, false, left, 4611686018427387904, files, clock⟩ by simp [St.op])
      go_enter Tryz.func51, Tryz.ntmps51
      go_wp2
      go_ret
      rw [HE.out]
      exact ⟨rfl, HR 4611686018427387904, (Only.refl _ _ _).setCell 3 _⟩
    · by_cases hl : 0 < left
      · have HE := Lib.hid (show St.op ⟨on, true, left, 4611686018427387904, files, clock⟩ = ⟨on, true, left - 1, 4611686018427387904, files, clock⟩ by simp [St.op, hl])
        have HF := Lib.hid (show false = St.fails ⟨on, true, left, 4611686018427387904, files, clock⟩ by simp [St.fails, hl])
        go_enter Tryz.func51, Tryz.ntmps51
        go_wp2
        go_ret
        rw [HE.out]
        exact ⟨ret_bool HF.out, (HR 4611686018427387904).setLeft (left - 1), ((Only.refl _ _ _).setCell 3 _).setCell 2 _⟩
      · have HE := Lib.hid (show St.op ⟨on, true, left, 4611686018427387904, files, clock⟩ = ⟨false, false, left, 4611686018427387904, files, clock⟩ by simp [St.op, hl])
        have HF := Lib.hid (show true = St.fails ⟨on, true, left, 4611686018427387904, files, clock⟩ by simp [St.fails, hl])
        go_enter Tryz.func51, Tryz.ntmps51
        go_wp2
        go_ret
        rw [HE.out]
        exact ⟨ret_bool HF.out, ((HR 4611686018427387904).setOn false).setFused false, (((Only.refl _ _ _).setCell 3 _).setCell 0 _).setCell 1 _⟩

/-! ### Look-ups -/
def has (l : List FE) (s : ByteArray) : Bool := l.any fun f => decide (f.name = s)
theorem has_false {l : List FE} {s : ByteArray} (h : has l s = false) : ∀ f ∈ l, f.name ≠ s := by
  intro f hf he
  rw [has, List.any_eq_false] at h
  exact h f hf (decide_eq_true he)
/-- The first file of a name. -/
theorem has_true {l : List FE} {s : ByteArray} (h : has l s = true) : ∃ p f q, l = p ++ f :: q ∧ f.name = s ∧ ∀ g ∈ p, g.name ≠ s := by
  induction l with
  | nil => cases h
  | cons g l ih =>
    by_cases hg : g.name = s
    · exact ⟨[], g, l, rfl, hg, by simp⟩
    · have h' : has l s = true := by
        simp only [has, List.any_cons, decide_eq_false hg, Bool.false_or] at h; exact h
      obtain ⟨p, f, q, rfl, hf, hp⟩ := ih h'
      exact ⟨g :: p, f, q, rfl, hf, fun x hx => by exact (List.mem_cons.1 hx).elim (fun e => e ▸ hg) (hp x)⟩

/-- What is said where a file lacks. -/
def lackErr (l : List FE) (s : ByteArray) : Int := if has l s then 0 else 7
theorem lackErr_true {l : List FE} {s : ByteArray} (h : has l s = true) : lackErr l s = 0 := by unfold lackErr; rw [h]; rfl
theorem lackErr_false {l : List FE} {s : ByteArray} (h : has l s = false) : lackErr l s = 7 := by unfold lackErr; rw [h]; rfl

theorem zeroFile (w : World) : (zeroValue 81).run Tryz.prog w = .ok (.agg #[.string ByteArray.empty, .int .i64 0]) w := by kernel_rfl

set_option maxHeartbeats 1000000 in
theorem lacks_any (d m : Nat) (S : St) (s : ByteArray) (w : World) (h : IsDisk w d m S) : Calls Tryz.prog 52 #[.pointer (some ⟨d, 0, none⟩), .string s] w fun e w' => e = .returned (.int .i64 (lackErr S.files s)) ∧ Below w.heap.size w w' := by
  obtain ⟨-, -, -, -, c4, -⟩ := h.facts
  have hlt := h.lt.1
  cases hh : has S.files s
  · have hr := run_look_miss (P := Tryz.prog) (w := w) Tryz.underlying45 Tryz.underlying9 (zeroFile w) h.map s (has_false hh)
    rw [lackErr_false hh]
    clear hh h
    go_enter Tryz.func52, Tryz.ntmps52
    go_wp2
    go_ret
    exact ⟨rfl, (Below.refl _ _).alloc (Nat.le_refl _) _⟩
  · obtain ⟨p, f, q, he, hf, hp⟩ := has_true hh
    have hm := h.map
    rw [he] at hm
    have hr := run_look_hit (P := Tryz.prog) (w := w) Tryz.underlying45 Tryz.underlying9 p q f hm s hf hp
    rw [lackErr_true hh]
    clear hh h hm he hf
    unfold FE.val at hr
    go_enter Tryz.func52, Tryz.ntmps52
    go_wp2
    go_ret
    exact ⟨rfl, (Below.refl _ _).alloc (Nat.le_refl _) _⟩

/-! ### The closures of the operations -/
def newFE (s : ByteArray) (c : Nat) : FE := ⟨s, ByteArray.empty, 0, c⟩

/-- What Create says of a name. -/
def createErr (S : St) (s : ByteArray) : Int := if validB s then (if has S.files s then 8 else if 40 ≤ S.files.length then 10 else 0) else 9

set_option maxHeartbeats 2000000 in
theorem create1_any (d m p q : Nat) (S : St) (s : ByteArray) (w : World) (h : IsDisk w d m S) (hp : w.cell? ⟨p, 0, none⟩ = some (.pointer (some ⟨d, 0, none⟩))) (hq : w.cell? ⟨q, 0, none⟩ = some (.string s)) (hs : s.size ≤ 9223372036854775807) :
    Calls Tryz.prog 65 #[.pointer (some ⟨p, 0, none⟩), .pointer (some ⟨q, 0, none⟩)] w fun e w' => e = .returned (.int .i64 (createErr S s)) ∧ Below w.heap.size w w' := by
  obtain ⟨-, -, -, -, c4, -⟩ := h.facts
  have hlt := h.lt.1
  have HD := Lib.hid h
  have hdrew : Below w.heap.size w w.drew := ⟨rfl, rfl, rfl, Nat.le_refl _, fun _ _ => rfl⟩
  have hK : ∀ W, Below w.heap.size w W → W.cell? ⟨p, 0, none⟩ = some (.pointer (some ⟨d, 0, none⟩)) ∧ W.cell? ⟨q, 0, none⟩ = some (.string s) ∧ W.cell? ⟨d, 4, none⟩ = some (.map (some m)) ∧ W.heap[m]? = some (mapOf S.files S.clock) := fun W hb =>
    ⟨(hb.cell (p := ⟨p, 0, none⟩) (World.block_lt_of_cell? _ _ hp)).trans hp, (hb.cell (p := ⟨q, 0, none⟩) (World.block_lt_of_cell? _ _ hq)).trans hq, (h.later hb).facts.2.2.2.2.1, (h.later hb).map⟩
  have K0 := Lib.hid (hK _ hdrew)
  have K1 := Lib.hid (fun o => hK (w.alloc o).drew (((Below.refl _ w).alloc (Nat.le_refl _) o).drew))
  clear hK hdrew h
  have hlen := fun W hb ty => run_len_files (P := Tryz.prog) (w := W) (m := m) (l := S.files) (clock := S.clock) Tryz.underlying45 ty hb
  cases hh : has S.files s
  · have hr := fun W hb => run_look_miss (P := Tryz.prog) (w := W) (m := m) (clock := S.clock) Tryz.underlying45 Tryz.underlying9 (zeroFile W) hb s (has_false hh)
    cases hv : validB s
    · have HV := Lib.hid hv
      have HE := Lib.hid (show createErr S s = 9 by unfold createErr; simp [*])
      rw [HE.out]
      clear hh hv HE
      go_enter Tryz.func65, Tryz.ntmps65
      go_wp2_with fail
      go_region_held3 (fun w' => w'.cell? ⟨p, 0, none⟩ = some (.pointer (some ⟨d, 0, none⟩)) ∧ w'.cell? ⟨q, 0, none⟩ = some (.string s) ∧ w'.cell? ⟨d, 4, none⟩ = some (.map (some m)) ∧ w'.heap[m]? = some (mapOf S.files S.clock)) (first | exact K0.out | exact K1.out _) (fail)
      all_goals
        have hq1 := fun o => (K1.out o).2.1
        have hd1 := fun o => (K1.out o).2.2.1
        have hp1 := fun o => (K1.out o).1
        have hm1 := fun o => (K1.out o).2.2.2
        go_wp2_with fail
        refine (valid_any s _ hs).mono ?_
        rintro e w1 ⟨rfl, rfl⟩
        rw [HV.out]
        go_wp2
        go_ret
        exact ⟨rfl, ((Below.refl _ _).alloc (Nat.le_refl _) _).drew⟩
    · have HV := Lib.hid hv
      by_cases h40 : 40 ≤ S.files.length
      · have h40' : (40 : Int) ≤ (S.files.length : Int) := by omega
        have HE := Lib.hid (show createErr S s = 10 by unfold createErr; simp [*])
        rw [HE.out]
        clear hh hv h40 HE
        go_enter Tryz.func65, Tryz.ntmps65
        go_wp2_with fail
        go_region_held3 (fun w' => w'.cell? ⟨p, 0, none⟩ = some (.pointer (some ⟨d, 0, none⟩)) ∧ w'.cell? ⟨q, 0, none⟩ = some (.string s) ∧ w'.cell? ⟨d, 4, none⟩ = some (.map (some m)) ∧ w'.heap[m]? = some (mapOf S.files S.clock)) (first | exact K0.out | exact K1.out _) (fail)
        all_goals
          have hq1 := fun o => (K1.out o).2.1
          have hd1 := fun o => (K1.out o).2.2.1
          have hp1 := fun o => (K1.out o).1
          have hm1 := fun o => (K1.out o).2.2.2
          go_wp2_with fail
          refine (valid_any s _ hs).mono ?_
          rintro e w1 ⟨rfl, rfl⟩
          rw [HV.out]
          go_wp2
          go_ret
          exact ⟨rfl, ((Below.refl _ _).alloc (Nat.le_refl _) _).drew⟩
      · have h40' : ¬ (40 : Int) ≤ (S.files.length : Int) := by omega
        have HE := Lib.hid (show createErr S s = 0 by unfold createErr; simp [*])
        rw [HE.out]
        clear hh hv h40 HE
        go_enter Tryz.func65, Tryz.ntmps65
        go_wp2_with fail
        go_region_held3 (fun w' => w'.cell? ⟨p, 0, none⟩ = some (.pointer (some ⟨d, 0, none⟩)) ∧ w'.cell? ⟨q, 0, none⟩ = some (.string s) ∧ w'.cell? ⟨d, 4, none⟩ = some (.map (some m)) ∧ w'.heap[m]? = some (mapOf S.files S.clock)) (first | exact K0.out | exact K1.out _) (fail)
        all_goals
          have hq1 := fun o => (K1.out o).2.1
          have hd1 := fun o => (K1.out o).2.2.1
          have hp1 := fun o => (K1.out o).1
          have hm1 := fun o => (K1.out o).2.2.2
          go_wp2_with fail
          refine (valid_any s _ hs).mono ?_
          rintro e w1 ⟨rfl, rfl⟩
          rw [HV.out]
          go_wp2
          go_ret
          exact ⟨rfl, ((Below.refl _ _).alloc (Nat.le_refl _) _).drew⟩
  · obtain ⟨fp, f, fq, he, hf, hfp⟩ := has_true hh
    have hr : ∀ W : World, W.heap[m]? = some (mapOf S.files S.clock) → (Instr.lookup 45 (.map (some m)) (.string s) true).run Tryz.prog W = .ok (.tuple #[.agg #[.string f.data, .int .i64 (f.synced : Int)], .bool true]) W := fun W hb => by
      rw [he] at hb
      exact run_look_hit (P := Tryz.prog) (w := W) (m := m) (clock := S.clock) Tryz.underlying45 Tryz.underlying9 fp fq f hb s hf hfp
    clear he hf hfp
    cases hv : validB s
    · have HV := Lib.hid hv
      have HE := Lib.hid (show createErr S s = 9 by unfold createErr; simp [*])
      rw [HE.out]
      clear hh hv HE
      go_enter Tryz.func65, Tryz.ntmps65
      go_wp2_with fail
      go_region_held3 (fun w' => w'.cell? ⟨p, 0, none⟩ = some (.pointer (some ⟨d, 0, none⟩)) ∧ w'.cell? ⟨q, 0, none⟩ = some (.string s) ∧ w'.cell? ⟨d, 4, none⟩ = some (.map (some m)) ∧ w'.heap[m]? = some (mapOf S.files S.clock)) (first | exact K0.out | exact K1.out _) (fail)
      all_goals
        have hq1 := fun o => (K1.out o).2.1
        have hd1 := fun o => (K1.out o).2.2.1
        have hp1 := fun o => (K1.out o).1
        have hm1 := fun o => (K1.out o).2.2.2
        go_wp2_with fail
        refine (valid_any s _ hs).mono ?_
        rintro e w1 ⟨rfl, rfl⟩
        rw [HV.out]
        go_wp2
        go_ret
        exact ⟨rfl, ((Below.refl _ _).alloc (Nat.le_refl _) _).drew⟩
    · have HV := Lib.hid hv
      have HE := Lib.hid (show createErr S s = 8 by unfold createErr; simp [*])
      rw [HE.out]
      clear hh hv HE
      go_enter Tryz.func65, Tryz.ntmps65
      go_wp2_with fail
      go_region_held3 (fun w' => w'.cell? ⟨p, 0, none⟩ = some (.pointer (some ⟨d, 0, none⟩)) ∧ w'.cell? ⟨q, 0, none⟩ = some (.string s) ∧ w'.cell? ⟨d, 4, none⟩ = some (.map (some m)) ∧ w'.heap[m]? = some (mapOf S.files S.clock)) (first | exact K0.out | exact K1.out _) (fail)
      all_goals
        have hq1 := fun o => (K1.out o).2.1
        have hd1 := fun o => (K1.out o).2.2.1
        have hp1 := fun o => (K1.out o).1
        have hm1 := fun o => (K1.out o).2.2.2
        go_wp2_with fail
        refine (valid_any s _ hs).mono ?_
        rintro e w1 ⟨rfl, rfl⟩
        rw [HV.out]
        go_wp2
        go_ret
        exact ⟨rfl, ((Below.refl _ _).alloc (Nat.le_refl _) _).drew⟩

end Go.Proofs.YtncpeaamfmfcgaaGreat
