/- The closures of Remove and Rename. -/
import Derived.Test.YtncpeaamfmfcgaaGreatDiskOps
namespace Go.Proofs.YtncpeaamfmfcgaaGreat
open Go.RowKit

/-- The files but that of a name. -/
def del (l : List FE) (s : ByteArray) : List FE := l.filter fun f => !decide (f.name = s)
theorem del_hit {p q : List FE} {f : FE} {s : ByteArray} (hf : f.name = s) (hp : ∀ x ∈ p, x.name ≠ s) (hq : ∀ x ∈ q, x.name ≠ s) : del (p ++ f :: q) s = p ++ q := by
  have h : ∀ l : List FE, (∀ x ∈ l, x.name ≠ s) → l.filter (fun f => !decide (f.name = s)) = l := fun l hl => List.filter_eq_self.2 fun x hx => by simp [hl x hx]
  unfold del
  rw [List.filter_append, List.filter_cons, h p hp, h q hq]
  simp [hf]

set_option maxHeartbeats 2000000 in
theorem remove1_any (d m p q : Nat) (S : St) (s : ByteArray) (w : World) (h : IsDisk w d m S) (hv : Vars w d m p q s) :
    Calls Tryz.prog 123 #[.pointer (some ⟨p, 0, none⟩), .pointer (some ⟨q, 0, none⟩)] w fun e w' => e = .returned (.int .i64 (lackErr S.files s)) ∧ Below w.heap.size w w' := by
  have hp := hv.disk
  have hq := hv.text
  have HD := Lib.hid h
  clear h hv
  go_enter Tryz.func123, Tryz.ntmps123
  go_wp2_with fail
  refine (lacks_any d m S s w HD.out).mono ?_
  rintro e w1 ⟨rfl, hb⟩
  go_wp2
  go_ret
  exact ⟨rfl, hb⟩

set_option maxHeartbeats 2000000 in
theorem remove2_any (d m p q : Nat) (S : St) (s : ByteArray) (w : World) (h : IsDisk w d m S) (hv : Vars w d m p q s) (hh : has S.files s = true) (ha : Apart S.files) :
    Calls Tryz.prog 124 #[.pointer (some ⟨p, 0, none⟩), .pointer (some ⟨q, 0, none⟩)] w fun e w' => e = .returned (.tuple #[]) ∧ IsDisk w' d m { S with files := del S.files s } ∧ Only d m w w' := by
  have hlt := h.lt.1
  obtain ⟨hK, hM, hP⟩ := closure_cells h hv.disk hv.text
  have K0 := Lib.hid (hK _ (below_of_drew w))
  have KK := Lib.hid hK
  have KM := Lib.hid hM
  have KP := Lib.hid hP
  have HD := Lib.hid h
  obtain ⟨fp, f, fq, he, hf, hfp⟩ := has_true hh
  clear hK hM hP h hv
  rw [he] at ha
  subst hf
  have hst : ∀ (W : World) (ty : TypeId), W.heap[m]? = some (mapOf S.files S.clock) → (Builtin.delete_ #[45, 9] ty #[.map (some m), .string f.name]).run Tryz.prog W = .ok (.tuple #[]) (World.put W m (mapOf (del S.files f.name) S.clock)) := fun W ty hb => by
    rw [he] at hb ⊢
    rw [del_hit rfl ha.mid.1 ha.mid.2]
    exact run_delete_hit (P := Tryz.prog) (w := W) (m := m) (clock := S.clock) Tryz.underlying45 Tryz.underlying9 ty fp fq f hb hfp
  clear he hfp ha hh
  generalize f.name = s at *
  go_enter Tryz.func124, Tryz.ntmps124
  go_wp2_with fail
  have hm0 := KM.out w.drew (below_of_drew w)
  go_region_held3 (fun w' => w'.cell? ⟨p, 0, none⟩ = some (.pointer (some ⟨d, 0, none⟩)) ∧ w'.cell? ⟨q, 0, none⟩ = some (.string s) ∧ w'.cell? ⟨d, 4, none⟩ = some (.map (some m))) (first | exact K0.out | exact KP.out _ _ (below_of_drew w)) (fail)
  go_end0
  exact ⟨rfl, (HD.out.later (below_of_drew w)).setFiles _ _, (Only.of_below (below_of_drew w)).put _⟩

/-! ### Rename -/
/-- The cells of a closure, at a world behind one in which the files have turned. -/
theorem closure_cells4 {w : World} {d m : Nat} {S : St} {a1 a2 a3 a4 : Addr} {x1 x2 x3 x4 : Value} (h : IsDisk w d m S) (h1 : w.cell? a1 = some x1) (h2 : w.cell? a2 = some x2) (h3 : w.cell? a3 = some x3) (h4 : w.cell? a4 = some x4) (l : List FE) (c : Nat) :
    (∀ W, Below (World.put w m (mapOf l c)).heap.size (World.put w m (mapOf l c)) W → W.cell? a1 = some x1 ∧ W.cell? a2 = some x2 ∧ W.cell? a3 = some x3 ∧ W.cell? a4 = some x4 ∧ W.cell? ⟨d, 4, none⟩ = some (.map (some m))) ∧
    (∀ W, Below (World.put w m (mapOf l c)).heap.size (World.put w m (mapOf l c)) W → W.heap[m]? = some (mapOf l c)) ∧
    (∀ W o, Below (World.put w m (mapOf l c)).heap.size (World.put w m (mapOf l c)) W → (World.put W m o).cell? a1 = some x1 ∧ (World.put W m o).cell? a2 = some x2 ∧ (World.put W m o).cell? a3 = some x3 ∧ (World.put W m o).cell? a4 = some x4 ∧ (World.put W m o).cell? ⟨d, 4, none⟩ = some (.map (some m))) := by
  have h' := h.setFiles l c
  have k1 := put_cell (o := mapOf l c) h.map h1
  have k2 := put_cell (o := mapOf l c) h.map h2
  have k3 := put_cell (o := mapOf l c) h.map h3
  have k4 := put_cell (o := mapOf l c) h.map h4
  exact ⟨fun _ hb => ⟨cell_later k1 hb, cell_later k2 hb, cell_later k3 hb, cell_later k4 hb, (h'.later hb).facts.2.2.2.2.1⟩, fun _ hb => (h'.later hb).map,
    fun _ _ hb => ⟨put_cell (h'.later hb).map (cell_later k1 hb), put_cell (h'.later hb).map (cell_later k2 hb), put_cell (h'.later hb).map (cell_later k3 hb), put_cell (h'.later hb).map (cell_later k4 hb), put_cell (h'.later hb).map (h'.later hb).facts.2.2.2.2.1⟩⟩

/-- The file of a name. -/
def fileOf (l : List FE) (s : ByteArray) : Option FE := l.find? fun f => decide (f.name = s)
theorem fileOf_hit {p q : List FE} {f : FE} {s : ByteArray} (hf : f.name = s) (hp : ∀ x ∈ p, x.name ≠ s) : fileOf (p ++ f :: q) s = some f := by
  unfold fileOf
  rw [List.find?_append, List.find?_eq_none.2 fun x hx => by simp [hp x hx]]
  simp [hf]

/-- What a file's new name does to the files. -/
def moved (l : List FE) (t : ByteArray) (f : FE) (c : Nat) : List FE × Nat :=
  if has l t then (upd l t fun g => { g with data := f.data, synced := f.synced }, c) else (l ++ [⟨t, f.data, f.synced, c⟩], c + 1)
def ren (S : St) (s t : ByteArray) : St :=
  match fileOf S.files s with
  | none => S
  | some f => { S with files := (moved (del S.files s) t f S.clock).1, clock := (moved (del S.files s) t f S.clock).2 }

theorem Apart.filter {l : List FE} (h : Apart l) (p : FE → Bool) : Apart (l.filter p) := List.Pairwise.filter p h

theorem run_moved {P : Program} {w : World} {t k e : TypeId} {m clock : Nat} {l : List FE} (ht : P.underlying t = some (.map k e)) (hk : P.underlying k = some .string) (hb : w.heap[m]? = some (mapOf l clock)) (ha : Apart l) (s : ByteArray) (f : FE) :
    (Instr.mapUpdate t (.map (some m)) (.string s) (.agg #[.string f.data, .int .i64 (f.synced : Int)])).run P w = .ok () (World.put w m (mapOf (moved l s f clock).1 (moved l s f clock).2)) := by
  unfold moved
  cases hh : has l s
  · exact run_store_miss ht hk hb s (has_false hh) f.data f.synced
  · obtain ⟨fp, g, fq, he, hg, hfp⟩ := has_true hh
    subst hg
    rw [if_pos rfl]
    rw [he] at hb ha ⊢
    rw [upd_hit _ rfl ha.mid.1 ha.mid.2]
    exact run_store_hit ht hk fp fq g hb hfp f.data f.synced

/-- What Rename says. -/
def renErr (S : St) (s t : ByteArray) : Int := if has S.files s then (if validB t then 0 else 9) else 7

set_option maxHeartbeats 2000000 in
theorem rename1_any (d m p q r : Nat) (S : St) (s t : ByteArray) (w : World) (h : IsDisk w d m S) (hv : Vars w d m p q s) (hu : Vars w d m p r t) (ht : t.size ≤ 9223372036854775807) :
    Calls Tryz.prog 111 #[.pointer (some ⟨p, 0, none⟩), .pointer (some ⟨q, 0, none⟩), .pointer (some ⟨r, 0, none⟩)] w fun e w' => e = .returned (.int .i64 (renErr S s t)) ∧ Below w.heap.size w w' := by
  have hp := hv.disk
  have hq := hv.text
  have HU := Lib.hid hu
  have HD := Lib.hid h
  have HB := Lib.hid ht
  clear h hv hu ht
  cases hh : has S.files s
  · have HE := Lib.hid (show renErr S s t = 7 by unfold renErr; simp [*])
    have HL := Lib.hid (lackErr_false hh)
    rw [HE.out]
    clear hh HE
    go_enter Tryz.func111, Tryz.ntmps111
    go_wp2_with fail
    refine (lacks_any d m S s w HD.out).mono ?_
    rintro e w1 ⟨rfl, hb⟩
    rw [HL.out]
    go_wp2
    go_ret
    exact ⟨rfl, hb⟩
  · have HL := Lib.hid (lackErr_true hh)
    cases hvt : validB t
    · have HE := Lib.hid (show renErr S s t = 9 by unfold renErr; simp [*])
      have HVT := Lib.hid hvt
      rw [HE.out]
      clear hh HE hvt
      go_enter Tryz.func111, Tryz.ntmps111
      go_wp2_with fail
      refine (lacks_any d m S s w HD.out).mono ?_
      rintro e w1 ⟨rfl, hb⟩
      rw [HL.out]
      have hr := (HU.out.later hb).text
      go_wp2_with fail
      refine (valid_any t _ HB.out).mono ?_
      rintro e w2 ⟨rfl, rfl⟩
      rw [HVT.out]
      go_wp2
      go_ret
      exact ⟨rfl, hb⟩
    · have HE := Lib.hid (show renErr S s t = 0 by unfold renErr; simp [*])
      have HVT := Lib.hid hvt
      rw [HE.out]
      clear hh HE hvt
      go_enter Tryz.func111, Tryz.ntmps111
      go_wp2_with fail
      refine (lacks_any d m S s w HD.out).mono ?_
      rintro e w1 ⟨rfl, hb⟩
      rw [HL.out]
      have hr := (HU.out.later hb).text
      go_wp2_with fail
      refine (valid_any t _ HB.out).mono ?_
      rintro e w2 ⟨rfl, rfl⟩
      rw [HVT.out]
      go_wp2
      go_ret
      exact ⟨rfl, hb⟩

theorem put_drew (w : World) (m : Nat) (o : Obj) : (World.put w m o).drew = World.put w.drew m o := rfl

set_option maxHeartbeats 4000000 in
theorem rename2_any (d m p q r : Nat) (S : St) (s t : ByteArray) (w : World) (h : IsDisk w d m S) (hv : Vars w d m p q s) (hu : Vars w d m p r t) (hs : t.size ≤ 281474976710656) (hh : has S.files s = true) (ha : Apart S.files) :
    Calls Tryz.prog 112 #[.pointer (some ⟨p, 0, none⟩), .pointer (some ⟨q, 0, none⟩), .pointer (some ⟨r, 0, none⟩)] w fun e w' => e = .returned (.tuple #[]) ∧ IsDisk w' d m (ren S s t) ∧ Only d m w w' := by
  have hlt := h.lt.1
  obtain ⟨hK, hM, hP⟩ := closure_cells h hv.disk hv.text
  have K0 := Lib.hid (hK _ (below_of_drew w))
  have KK := Lib.hid hK
  have KM := Lib.hid hM
  have HD := Lib.hid h
  have HS := Lib.hid hs
  obtain ⟨fp, f, fq, he, hf, hfp⟩ := has_true hh
  obtain ⟨lK, lM, lP⟩ := closure_cells2 (u := .string f.data) (v := .int .i64 (f.synced : Int)) (t := 81) h hv.disk hv.text
  have LK := Lib.hid lK
  have LM := Lib.hid lM
  have LP := Lib.hid lP
  have HA := Lib.hid (show Below w.heap.size w (w.alloc (.cells #[.string f.data, .int .i64 (f.synced : Int)] 81)).drew.drew from ((Below.refl _ w).alloc (Nat.le_refl _) _).drew.drew)
  have hx1 : (w.alloc (.cells #[.string f.data, .int .i64 (f.synced : Int)] 81)).drew.drew.cell? ⟨w.heap.size, 0, none⟩ = some (.string f.data) := (LK.out _ (below_drew2 _)).2.2.2.1
  have hx2 : (w.alloc (.cells #[.string f.data, .int .i64 (f.synced : Int)] 81)).drew.drew.cell? ⟨w.heap.size, 1, none⟩ = some (.int .i64 (f.synced : Int)) := (LK.out _ (below_drew2 _)).2.2.2.2
  obtain ⟨mK, mM, mP⟩ := closure_cells4 (h.later HA.out) (cell_later hv.disk HA.out) (cell_later hu.text HA.out) hx1 hx2 (del S.files s) S.clock
  have MK := Lib.hid mK
  have MM := Lib.hid mM
  have MP := Lib.hid mP
  clear hK hM hP h hv hu lK lM lP mK mM mP hs hx1 hx2
  have hr : ∀ W : World, W.heap[m]? = some (mapOf S.files S.clock) → (Instr.lookup 45 (.map (some m)) (.string s) false).run Tryz.prog W = .ok (.agg #[.string f.data, .int .i64 (f.synced : Int)]) W := fun W hb => by
    rw [he] at hb
    exact run_look_hit1 (P := Tryz.prog) (w := W) (m := m) (clock := S.clock) Tryz.underlying45 Tryz.underlying9 fp fq f hb s hf hfp
  have hfo : fileOf S.files s = some f := by rw [he]; exact fileOf_hit hf hfp
  have HR := Lib.hid (show ren S s t = { S with files := (moved (del S.files s) t f S.clock).1, clock := (moved (del S.files s) t f S.clock).2 } by unfold ren; rw [hfo])
  have hst2 : ∀ W : World, W.heap[m]? = some (mapOf (del S.files s) S.clock) → (Instr.mapUpdate 45 (.map (some m)) (.string t) (.agg #[.string f.data, .int .i64 (f.synced : Int)])).run Tryz.prog W = .ok () (World.put W m (mapOf (moved (del S.files s) t f S.clock).1 (moved (del S.files s) t f S.clock).2)) := fun W hb =>
    run_moved (P := Tryz.prog) Tryz.underlying45 Tryz.underlying9 hb (ha.filter _) t f
  rw [he] at ha
  have hst : ∀ (W : World) (ty : TypeId), W.heap[m]? = some (mapOf S.files S.clock) → (Builtin.delete_ #[45, 9] ty #[.map (some m), .string s]).run Tryz.prog W = .ok (.tuple #[]) (World.put W m (mapOf (del S.files s) S.clock)) := fun W ty hb => by
    subst hf
    rw [he] at hb ⊢
    rw [del_hit rfl ha.mid.1 ha.mid.2]
    exact run_delete_hit (P := Tryz.prog) (w := W) (m := m) (clock := S.clock) Tryz.underlying45 Tryz.underlying9 ty fp fq f hb hfp
  rw [HR.out]
  clear he hfp ha hh hfo HR hf
  generalize (moved (del S.files s) t f S.clock).1 = l2 at *
  generalize (moved (del S.files s) t f S.clock).2 = c2 at *
  generalize del S.files s = l1 at *
  go_enter Tryz.func112, Tryz.ntmps112
  go_wp2_with fail
  have hm0 := KM.out w.drew (below_of_drew w)
  have hmA := fun o => KM.out (w.alloc o).drew (((Below.refl _ w).alloc (Nat.le_refl _) o).drew)
  go_region_held3 (fun w' => w'.cell? ⟨p, 0, none⟩ = some (.pointer (some ⟨d, 0, none⟩)) ∧ w'.cell? ⟨q, 0, none⟩ = some (.string s) ∧ w'.cell? ⟨d, 4, none⟩ = some (.map (some m))) (first | exact K0.out | exact KK.out _ (((Below.refl _ w).alloc (Nat.le_refl _) _).drew)) (fail)
  all_goals
    go_wp2_with fail
    have hmB := LM.out _ (below_drew2 _)
    go_region_held3 (fun w' => w'.cell? ⟨p, 0, none⟩ = some (.pointer (some ⟨d, 0, none⟩)) ∧ w'.cell? ⟨q, 0, none⟩ = some (.string s) ∧ w'.cell? ⟨d, 4, none⟩ = some (.map (some m)) ∧ w'.cell? ⟨w.heap.size, 0, none⟩ = some (.string f.data) ∧ w'.cell? ⟨w.heap.size, 1, none⟩ = some (.int .i64 (f.synced : Int))) (first | exact LK.out _ (below_drew2 _) | exact LP.out _ _ (below_drew2 _)) (fail)
    go_wp2_with fail
    go_region_held3 (fun w' => w'.cell? ⟨p, 0, none⟩ = some (.pointer (some ⟨d, 0, none⟩)) ∧ w'.cell? ⟨r, 0, none⟩ = some (.string t) ∧ w'.cell? ⟨w.heap.size, 0, none⟩ = some (.string f.data) ∧ w'.cell? ⟨w.heap.size, 1, none⟩ = some (.int .i64 (f.synced : Int)) ∧ w'.cell? ⟨d, 4, none⟩ = some (.map (some m))) (first | exact MK.out _ (below_of_drew _) | exact MK.out _ ((below_of_drew _).trans (by assumption)) | exact MP.out _ _ ((below_of_drew _).trans (by assumption))) (first | (go_at_call 36; refine (clone_any t _ HS.out).mono ?_; rintro e w1 ⟨rfl, hb1⟩; have hm1 := MM.out w1 ((below_of_drew _).trans hb1)))
    go_end0
    refine ⟨rfl, (((HD.out.later HA.out).setFiles l1 S.clock).later ((below_of_drew _).trans ?_)).setFiles _ _, (((Only.of_below HA.out).put (mapOf l1 S.clock)).trans (Only.of_below ((below_of_drew _).trans ?_))).put _⟩ <;> assumption

end Go.Proofs.YtncpeaamfmfcgaaGreat
