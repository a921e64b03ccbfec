/- The operations of a disk: what Create, Append, Sync, Rename, Remove do to its state. -/
import Derived.Test.YtncpeaamfmfcgaaGreatDisk
import Derived.Test.YtncpeaamfmfcgaaGreatLib
namespace Go.Proofs.YtncpeaamfmfcgaaGreat
open Go.RowKit

theorem cell_later {w W : World} {a : Addr} {v : Value} (h : w.cell? a = some v) (hb : Below w.heap.size w W) : W.cell? a = some v := (hb.cell (p := a) (World.block_lt_of_cell? _ _ h)).trans h
theorem below_of_drew (w : World) : Below w.heap.size w w.drew := ⟨rfl, rfl, rfl, Nat.le_refl _, fun _ _ => rfl⟩

theorem put_cell {w : World} {m : Nat} {es : Array MapEntry} {c : Nat} {o : Obj} (hm : w.heap[m]? = some (.map es c)) {a : Addr} {v : Value} (h : w.cell? a = some v) : (World.put w m o).cell? a = some v := by
  have hne : a.block ≠ m := by
    intro e
    have h1 := h
    simp only [World.cell?, e, hm] at h1
    cases h1
  rw [← h]
  exact World.cell?_of_block (put_other w m o a.block hne)

/-- The cells that an operation's closure reads. -/
theorem closure_cells {w : World} {d m p q : Nat} {S : St} {x y : Value} (h : IsDisk w d m S) (hp : w.cell? ⟨p, 0, none⟩ = some x) (hq : w.cell? ⟨q, 0, none⟩ = some y) :
    (∀ W, Below w.heap.size w W → W.cell? ⟨p, 0, none⟩ = some x ∧ W.cell? ⟨q, 0, none⟩ = some y ∧ W.cell? ⟨d, 4, none⟩ = some (.map (some m))) ∧
    (∀ W, Below w.heap.size w W → W.heap[m]? = some (mapOf S.files S.clock)) ∧
    (∀ W o, Below w.heap.size w W → (World.put W m o).cell? ⟨p, 0, none⟩ = some x ∧ (World.put W m o).cell? ⟨q, 0, none⟩ = some y ∧ (World.put W m o).cell? ⟨d, 4, none⟩ = some (.map (some m))) :=
  ⟨fun _ hb => ⟨cell_later hp hb, cell_later hq hb, (h.later hb).facts.2.2.2.2.1⟩, fun _ hb => (h.later hb).map,
   fun _ _ hb => ⟨put_cell (h.later hb).map (cell_later hp hb), put_cell (h.later hb).map (cell_later hq hb), put_cell (h.later hb).map (h.later hb).facts.2.2.2.2.1⟩⟩

set_option maxHeartbeats 2000000 in
theorem create2_any (d m p q : Nat) (S : St) (s : ByteArray) (w : World) (h : IsDisk w d m S) (hp : w.cell? ⟨p, 0, none⟩ = some (.pointer (some ⟨d, 0, none⟩))) (hq : w.cell? ⟨q, 0, none⟩ = some (.string s)) (hs : s.size ≤ 281474976710656) (hh : has S.files s = false) :
    Calls Tryz.prog 67 #[.pointer (some ⟨p, 0, none⟩), .pointer (some ⟨q, 0, none⟩)] w fun e w' => e = .returned (.tuple #[]) ∧ IsDisk w' d m { S with files := S.files ++ [newFE s S.clock], clock := S.clock + 1 } ∧ Only d m w w' := by
  have hlt := h.lt.1
  obtain ⟨hK, hM, hP⟩ := closure_cells h hp hq
  have K0 := Lib.hid (hK _ (below_of_drew w))
  have KK := Lib.hid hK
  have KM := Lib.hid hM
  have KP := Lib.hid hP
  have HD := Lib.hid h
  clear hK hM hP h hp hq
  have hst : ∀ W : World, W.heap[m]? = some (mapOf S.files S.clock) → (Instr.mapUpdate 45 (.map (some m)) (.string s) (.agg #[.string ⟨#[]⟩, .int .i64 0])).run Tryz.prog W = .ok () (World.put W m (mapOf (S.files ++ [newFE s S.clock]) (S.clock + 1))) := fun W hb =>
    run_store_miss (P := Tryz.prog) (w := W) (m := m) (clock := S.clock) Tryz.underlying45 Tryz.underlying9 hb s (has_false hh) ⟨#[]⟩ 0
  clear hh
  go_enter Tryz.func67, Tryz.ntmps67
  go_wp2_with fail
  go_region_held3 (fun w' => w'.cell? ⟨p, 0, none⟩ = some (.pointer (some ⟨d, 0, none⟩)) ∧ w'.cell? ⟨q, 0, none⟩ = some (.string s) ∧ w'.cell? ⟨d, 4, none⟩ = some (.map (some m))) (first | exact K0.out | exact KK.out _ ((below_of_drew w).trans (by assumption)) | exact KP.out _ _ ((below_of_drew w).trans (by assumption))) (first | (go_at_call 36; refine (clone_any s _ hs).mono ?_; rintro e w1 ⟨rfl, hb1⟩; have hm1 := KM.out w1 ((below_of_drew w).trans hb1)))
  go_end0
  refine ⟨rfl, (HD.out.later ((below_of_drew w).trans ?_)).setFiles _ _, (Only.of_below ((below_of_drew w).trans ?_)).put _⟩ <;> assumption

/-- The same, and a file that the closure has laid in a block of its own. -/
theorem closure_cells2 {w : World} {d m : Nat} {a1 a2 : Addr} {S : St} {x y u v : Value} {t : TypeId} (h : IsDisk w d m S) (hp : w.cell? a1 = some x) (hq : w.cell? a2 = some y) :
    (∀ W, Below (w.alloc (.cells #[u, v] t)).heap.size (w.alloc (.cells #[u, v] t)) W → W.cell? a1 = some x ∧ W.cell? a2 = some y ∧ W.cell? ⟨d, 4, none⟩ = some (.map (some m)) ∧ W.cell? ⟨w.heap.size, 0, none⟩ = some u ∧ W.cell? ⟨w.heap.size, 1, none⟩ = some v) ∧
    (∀ W, Below (w.alloc (.cells #[u, v] t)).heap.size (w.alloc (.cells #[u, v] t)) W → W.heap[m]? = some (mapOf S.files S.clock)) ∧
    (∀ W o, Below (w.alloc (.cells #[u, v] t)).heap.size (w.alloc (.cells #[u, v] t)) W → (World.put W m o).cell? a1 = some x ∧ (World.put W m o).cell? a2 = some y ∧ (World.put W m o).cell? ⟨d, 4, none⟩ = some (.map (some m)) ∧ (World.put W m o).cell? ⟨w.heap.size, 0, none⟩ = some u ∧ (World.put W m o).cell? ⟨w.heap.size, 1, none⟩ = some v) := by
  have ha : Below w.heap.size w (w.alloc (.cells #[u, v] t)) := below_alloc (Below.refl _ w) _
  have h' := h.later ha
  have hp' := cell_later hp ha
  have hq' := cell_later hq ha
  have hu : (w.alloc (.cells #[u, v] t)).cell? ⟨w.heap.size, 0, none⟩ = some u := by rw [World.cell?_alloc_at _ _ _ _ rfl]; rfl
  have hv : (w.alloc (.cells #[u, v] t)).cell? ⟨w.heap.size, 1, none⟩ = some v := by rw [World.cell?_alloc_at _ _ _ _ rfl]; rfl
  exact ⟨fun _ hb => ⟨cell_later hp' hb, cell_later hq' hb, (h'.later hb).facts.2.2.2.2.1, cell_later hu hb, cell_later hv hb⟩, fun _ hb => (h'.later hb).map,
    fun _ _ hb => ⟨put_cell (h'.later hb).map (cell_later hp' hb), put_cell (h'.later hb).map (cell_later hq' hb), put_cell (h'.later hb).map (h'.later hb).facts.2.2.2.2.1, put_cell (h'.later hb).map (cell_later hu hb), put_cell (h'.later hb).map (cell_later hv hb)⟩⟩
theorem below_drew2 (w : World) : Below w.heap.size w w.drew.drew := ⟨rfl, rfl, rfl, Nat.le_refl _, fun _ _ => rfl⟩

/-- A state whose counts fit. -/
structure St.Fits (S : St) : Prop where
  ops : S.ops ≤ 4611686018427387904
  left : -9223372036854775808 ≤ S.left ∧ S.left ≤ 9223372036854775807

theorem St.Fits.op {S : St} (h : S.Fits) : S.op.Fits := by
  refine ⟨?_, ?_⟩
  · show min (S.ops + 1) 4611686018427387904 ≤ _; omega
  · show -9223372036854775808 ≤ (if S.fused = true ∧ 0 < S.left then S.left - 1 else S.left) ∧ (if S.fused = true ∧ 0 < S.left then S.left - 1 else S.left) ≤ _
    have := h.left
    split <;> omega

/-- What an operation comes to: 'e' is what it says of the files, 'f' what it does to them where nothing is wrong. -/
def St.does (S : St) (e : Int) (f : St → St) : Int × St :=
  if S.on then (if S.fails then (14, S.op) else if e = 0 then (0, f S.op) else (e, S.op)) else (14, S)
theorem does_off {S : St} {e : Int} {f : St → St} (h : S.on = false) : S.does e f = (14, S) := by unfold St.does; rw [if_neg (by simp [h])]
theorem does_fails {S : St} {e : Int} {f : St → St} (h : S.on = true) (hf : S.fails = true) : S.does e f = (14, S.op) := by unfold St.does; rw [if_pos h, if_pos hf]
theorem does_err {S : St} {e : Int} {f : St → St} (h : S.on = true) (hf : S.fails = false) (he : e ≠ 0) : S.does e f = (e, S.op) := by unfold St.does; rw [if_pos h, if_neg (by simp [hf]), if_neg he]
theorem does_ok {S : St} {e : Int} {f : St → St} (h : S.on = true) (hf : S.fails = false) (he : e = 0) : S.does e f = (0, f S.op) := by unfold St.does; rw [if_pos h, if_neg (by simp [hf]), if_pos he]

def St.create (S : St) (s : ByteArray) : Int × St := S.does (createErr S s) fun T => { T with files := T.files ++ [newFE s T.clock], clock := T.clock + 1 }

theorem only_cell {d m : Nat} {w w' : World} (h : Only d m w w') {a : Addr} {v : Value} (hc : w.cell? a = some v) (hd : a.block ≠ d) (hm : a.block ≠ m) : w'.cell? a = some v :=
  (World.cell?_of_block (h.block a.block (World.block_lt_of_cell? _ _ hc) hd hm)).trans hc

/-- The two variables that an operation's closures share: the disk and a text. -/
structure Vars (w : World) (d m p q : Nat) (s : ByteArray) : Prop where
  disk : w.cell? ⟨p, 0, none⟩ = some (.pointer (some ⟨d, 0, none⟩))
  text : w.cell? ⟨q, 0, none⟩ = some (.string s)
  pd : p ≠ d
  pm : p ≠ m
  qd : q ≠ d
  qm : q ≠ m
theorem Vars.later {w W : World} {d m p q : Nat} {s : ByteArray} (h : Vars w d m p q s) (hb : Below w.heap.size w W) : Vars W d m p q s :=
  ⟨cell_later h.disk hb, cell_later h.text hb, h.pd, h.pm, h.qd, h.qm⟩
theorem Vars.only {w W : World} {d m p q : Nat} {s : ByteArray} (h : Vars w d m p q s) (hb : Only d m w W) : Vars W d m p q s :=
  ⟨only_cell hb h.disk h.pd h.pm, only_cell hb h.text h.qd h.qm, h.pd, h.pm, h.qd, h.qm⟩
theorem Vars.made {w : World} {d m : Nat} {S : St} (h : IsDisk w d m S) (s : ByteArray) (t u : TypeId) : Vars ((w.alloc (.cells #[.pointer (some ⟨d, 0, none⟩)] t)).alloc (.cells #[.string s] u)) d m w.heap.size (w.heap.size + 1) s := by
  have h1 := h.lt.1
  have h2 := h.lt.2
  refine ⟨?_, ?_, by omega, by omega, by omega, by omega⟩
  · rw [World.cell?_alloc_past _ _ _ (by simp), World.cell?_alloc_at _ _ _ _ rfl]; rfl
  · rw [World.cell?_alloc_at _ _ _ _ (by simp)]; rfl

theorem createErr_zero {S : St} {s : ByteArray} (h : createErr S s = 0) : validB s = true ∧ has S.files s = false ∧ S.files.length < 40 := by
  unfold createErr at h
  split at h
  · rename_i hv
    split at h
    · cases h
    · rename_i hh
      split at h
      · cases h
      · exact ⟨hv, by simpa using hh, by omega⟩
  · cases h

set_option maxHeartbeats 2000000 in
theorem create_any (d m : Nat) (S : St) (s : ByteArray) (w : World) (h : IsDisk w d m S) (hs : s.size ≤ 281474976710656) (hF : S.Fits) :
    Calls Tryz.prog 37 #[.pointer (some ⟨d, 0, none⟩), .string s] w fun e w' => e = .returned (.int .i64 (S.create s).1) ∧ IsDisk w' d m (S.create s).2 ∧ Only d m w w' := by
  have HB2 := Lib.hid (show ∀ a b, Below w.heap.size w ((w.alloc a).alloc b) from fun a b => below_alloc (below_alloc (Below.refl _ w) a) b)
  have HD := Lib.hid h
  have HVS := Lib.hid (fun t u => Vars.made h s t u)
  have HF := Lib.hid hF
  have HS := Lib.hid hs
  have HON := Lib.hid (show S.on = true ∨ S.on = false by cases S.on <;> simp)
  have HX := Lib.hid (fun W hD => op_any d m S W hD hF.ops hF.left)
  clear h hF hs
  rcases HON.out with hon | hon
  case inr =>
    have HE := Lib.hid (show S.create s = (14, S) from does_off hon)
    have HON' := Lib.hid hon
    rw [HE.out]
    clear hon HE
    go_enter Tryz.func37, Tryz.ntmps37
    go_wp2_with (first | (go_at_call 64; go_in))
    refine (off_any d m S _ (HD.out.later (HB2.out _ _))).mono ?_
    rintro e w1 ⟨rfl, rfl⟩
    rw [HON'.out]
    go_wp2
    go_ret
    exact ⟨rfl, HD.out.later (HB2.out _ _), Only.of_below (HB2.out _ _)⟩
  case inl =>
    have HON' := Lib.hid hon
    clear hon
    cases hfl : S.fails
    · have HFL := Lib.hid hfl
      by_cases he : createErr S s = 0
      · have HE := Lib.hid (show S.create s = (0, _) from does_ok HON'.out hfl he)
        have HER := Lib.hid he
        rw [HE.out]
        clear he hfl HE
        go_enter Tryz.func37, Tryz.ntmps37
        go_wp2_with (first | (go_at_call 64; go_in))
        refine (off_any d m S _ (HD.out.later (HB2.out _ _))).mono ?_
        rintro e w1 ⟨rfl, rfl⟩
        rw [HON'.out]
        go_wp2_with fail
        refine (HX.out _ (HD.out.later (HB2.out _ _))).mono ?_
        rintro e w1 ⟨rfl, hd1, ho1⟩
        rw [HFL.out]
        have hv1 := (HVS.out 25 9).only ho1
        go_wp2_with fail
        refine (create1_any d m _ _ S.op s w1 hd1 hv1.disk hv1.text (by have := HS.out; omega)).mono ?_
        rintro e w2 ⟨rfl, hb2⟩
        rw [show createErr S.op s = 0 from HER.out]
        have hv2 := hv1.later hb2
        go_wp2_with fail
        refine (create2_any d m _ _ S.op s w2 (hd1.later hb2) hv2.disk hv2.text HS.out (createErr_zero HER.out).2.1).mono ?_
        rintro e w3 ⟨rfl, hd3, ho3⟩
        go_wp2
        go_ret
        exact ⟨rfl, hd3, ((Only.of_below (HB2.out _ _)).trans ho1).trans ((Only.of_below hb2).trans ho3)⟩
      · have HE := Lib.hid (show S.create s = (createErr S s, S.op) from does_err HON'.out hfl he)
        have HER := Lib.hid (show (createErr S s == 0) = false from beq_eq_false_iff_ne.2 he)
        rw [HE.out]
        clear he hfl HE
        go_enter Tryz.func37, Tryz.ntmps37
        go_wp2_with (first | (go_at_call 64; go_in))
        refine (off_any d m S _ (HD.out.later (HB2.out _ _))).mono ?_
        rintro e w1 ⟨rfl, rfl⟩
        rw [HON'.out]
        go_wp2_with fail
        refine (HX.out _ (HD.out.later (HB2.out _ _))).mono ?_
        rintro e w1 ⟨rfl, hd1, ho1⟩
        rw [HFL.out]
        have hv1 := (HVS.out 25 9).only ho1
        go_wp2_with fail
        refine (create1_any d m _ _ S.op s w1 hd1 hv1.disk hv1.text (by have := HS.out; omega)).mono ?_
        rintro e w2 ⟨rfl, hb2⟩
        rw [show createErr S.op s = createErr S s from rfl]
        have her := HER.out
        go_wp2
        go_ret
        exact ⟨rfl, hd1.later hb2, ((Only.of_below (HB2.out _ _)).trans ho1).trans (Only.of_below hb2)⟩
    · have HFL := Lib.hid hfl
      have HE := Lib.hid (show S.create s = (14, S.op) from does_fails HON'.out hfl)
      rw [HE.out]
      clear hfl HE
      go_enter Tryz.func37, Tryz.ntmps37
      go_wp2_with (first | (go_at_call 64; go_in))
      refine (off_any d m S _ (HD.out.later (HB2.out _ _))).mono ?_
      rintro e w1 ⟨rfl, rfl⟩
      rw [HON'.out]
      go_wp2_with fail
      refine (HX.out _ (HD.out.later (HB2.out _ _))).mono ?_
      rintro e w1 ⟨rfl, hd1, ho1⟩
      rw [HFL.out]
      go_wp2
      go_ret
      exact ⟨rfl, hd1, (Only.of_below (HB2.out _ _)).trans ho1⟩

/-! ### Sync -/
/-- Of the files of a name (there is one) other bytes. -/
def upd (l : List FE) (s : ByteArray) (g : FE → FE) : List FE := l.map fun f => if f.name = s then g f else f
theorem upd_hit {p q : List FE} {f : FE} {s : ByteArray} (g : FE → FE) (hf : f.name = s) (hp : ∀ x ∈ p, x.name ≠ s) (hq : ∀ x ∈ q, x.name ≠ s) : upd (p ++ f :: q) s g = p ++ g f :: q := by
  unfold upd
  rw [List.map_append, List.map_cons, if_pos hf]
  congr 1
  · exact (List.map_congr_left fun x hx => if_neg (hp x hx)).trans (List.map_id _)
  · congr 1
    exact (List.map_congr_left fun x hx => if_neg (hq x hx)).trans (List.map_id _)

/-- No two files have one name. -/
def Apart (l : List FE) : Prop := l.Pairwise fun f g => f.name ≠ g.name
theorem Apart.mid {p q : List FE} {f : FE} (h : Apart (p ++ f :: q)) : (∀ x ∈ p, x.name ≠ f.name) ∧ (∀ x ∈ q, x.name ≠ f.name) := by
  have h1 := List.pairwise_append.1 h
  exact ⟨fun x hx => h1.2.2 x hx f (by simp), fun x hx => ((List.pairwise_cons.1 h1.2.1).1 x hx).symm⟩

def syncFE (f : FE) : FE := { f with synced := f.data.size }

set_option maxHeartbeats 2000000 in
theorem sync1_any (d m p q : Nat) (S : St) (s : ByteArray) (w : World) (h : IsDisk w d m S) (hv : Vars w d m p q s) :
    Calls Tryz.prog 82 #[.pointer (some ⟨p, 0, none⟩), .pointer (some ⟨q, 0, none⟩)] w fun e w' => e = .returned (.int .i64 (lackErr S.files s)) ∧ Below w.heap.size w w' := by
  have hp := hv.disk
  have hq := hv.text
  have HD := Lib.hid h
  clear h hv
  go_enter Tryz.func82, Tryz.ntmps82
  go_wp2_with fail
  refine (lacks_any d m S s w HD.out).mono ?_
  rintro e w1 ⟨rfl, hb⟩
  go_wp2
  go_ret
  exact ⟨rfl, hb⟩

set_option maxHeartbeats 2000000 in
theorem sync2_any (d m p q : Nat) (S : St) (s : ByteArray) (w : World) (h : IsDisk w d m S) (hv : Vars w d m p q s) (hh : has S.files s = true) (ha : Apart S.files) :
    Calls Tryz.prog 83 #[.pointer (some ⟨p, 0, none⟩), .pointer (some ⟨q, 0, none⟩)] w fun e w' => e = .returned (.tuple #[]) ∧ IsDisk w' d m { S with files := upd S.files s syncFE } ∧ Only d m w w' := by
  have hlt := h.lt.1
  obtain ⟨hK, hM, hP⟩ := closure_cells h hv.disk hv.text
  have K0 := Lib.hid (hK _ (below_of_drew w))
  have KK := Lib.hid hK
  have KM := Lib.hid hM
  have KP := Lib.hid hP
  have HD := Lib.hid h
  obtain ⟨fp, f, fq, he, hf, hfp⟩ := has_true hh
  obtain ⟨lK, lM, lP⟩ := closure_cells2 (u := .string f.data) (v := .int .i64 (f.data.size : Int)) (t := 81) h hv.disk hv.text
  have LK := Lib.hid lK
  have LM := Lib.hid lM
  have LP := Lib.hid lP
  clear hK hM hP h hv lK lM lP
  have hr : ∀ W : World, W.heap[m]? = some (mapOf S.files S.clock) → (Instr.lookup 45 (.map (some m)) (.string s) false).run Tryz.prog W = .ok (.agg #[.string f.data, .int .i64 (f.synced : Int)]) W := fun W hb => by
    rw [he] at hb
    exact run_look_hit1 (P := Tryz.prog) (w := W) (m := m) (clock := S.clock) Tryz.underlying45 Tryz.underlying9 fp fq f hb s hf hfp
  rw [he] at ha
  subst hf
  have hst : ∀ W : World, W.heap[m]? = some (mapOf S.files S.clock) → (Instr.mapUpdate 45 (.map (some m)) (.string f.name) (.agg #[.string f.data, .int .i64 (f.data.size : Int)])).run Tryz.prog W = .ok () (World.put W m (mapOf (upd S.files f.name syncFE) S.clock)) := fun W hb => by
    rw [he] at hb ⊢
    rw [upd_hit syncFE rfl ha.mid.1 ha.mid.2]
    exact run_store_hit (P := Tryz.prog) (w := W) (m := m) (clock := S.clock) Tryz.underlying45 Tryz.underlying9 fp fq f hb hfp f.data f.data.size
  clear he hfp ha hh
  generalize f.name = s at *
  go_enter Tryz.func83, Tryz.ntmps83
  go_wp2_with fail
  have hm0 := KM.out w.drew (below_of_drew w)
  have hmA := fun o => KM.out (w.alloc o).drew (((Below.refl _ w).alloc (Nat.le_refl _) o).drew)
  go_region_held3 (fun w' => w'.cell? ⟨p, 0, none⟩ = some (.pointer (some ⟨d, 0, none⟩)) ∧ w'.cell? ⟨q, 0, none⟩ = some (.string s) ∧ w'.cell? ⟨d, 4, none⟩ = some (.map (some m))) (first | exact K0.out | exact KK.out _ (((Below.refl _ w).alloc (Nat.le_refl _) _).drew)) (fail)
  all_goals
    go_wp2_with fail
    have hmB := LM.out _ (below_drew2 _)
    go_region_held3 (fun w' => w'.cell? ⟨p, 0, none⟩ = some (.pointer (some ⟨d, 0, none⟩)) ∧ w'.cell? ⟨q, 0, none⟩ = some (.string s) ∧ w'.cell? ⟨d, 4, none⟩ = some (.map (some m)) ∧ w'.cell? ⟨w.heap.size, 0, none⟩ = some (.string f.data) ∧ w'.cell? ⟨w.heap.size, 1, none⟩ = some (.int .i64 (f.data.size : Int))) (first | exact LK.out _ (below_drew2 _) | exact LP.out _ _ (below_drew2 _)) (fail)
    go_end0
    exact ⟨rfl, (HD.out.later (((Below.refl _ w).alloc (Nat.le_refl _) _).drew.drew)).setFiles _ _, (Only.of_below (((Below.refl _ w).alloc (Nat.le_refl _) _).drew.drew)).put _⟩

end Go.Proofs.YtncpeaamfmfcgaaGreat
