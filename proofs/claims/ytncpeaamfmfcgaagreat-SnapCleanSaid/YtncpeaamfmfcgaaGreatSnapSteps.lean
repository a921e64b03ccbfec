/- A store's calls: a Save's steps, Save, Commit, Base, Round. -/
import Derived.Test.YtncpeaamfmfcgaaGreatSnapStore
import Derived.Deep.RegionLaw
namespace Go.Proofs.YtncpeaamfmfcgaaGreat
open Go.RowKit Go.Proofs.YtncpeaamfmfcgaaGreat.Sum

/-! The steps of a Save: next's closures. -/

/-- The steps' variables: the store (in the box p), the state (in the box q), the next round (in the box x); the box b is the new log's. -/
structure NBox (W : World) (d m t p q x b : Nat) (lv : Value) (dir : ByteArray) (r n : Nat) (base : ByteArray) (br : Bool) (state : ByteArray) : Prop where
  cp : W.cell? ⟨p, 0, none⟩ = some (.pointer (some ⟨t, 0, none⟩))
  cq : W.cell? ⟨q, 0, none⟩ = some (.string state)
  cx : W.cell? ⟨x, 0, none⟩ = some (.int .i64 (n : Int))
  st : StoreAt W t lv (.pointer (some ⟨d, 0, none⟩)) dir r base br
  dis : (p ≠ d ∧ p ≠ m ∧ p ≠ b) ∧ (q ≠ d ∧ q ≠ m ∧ q ≠ b) ∧ (x ≠ d ∧ x ≠ m ∧ x ≠ b) ∧ (t ≠ d ∧ t ≠ m ∧ t ≠ b)
section
variable {W W' : World} {d m t p q x b : Nat} {lv : Value} {dir base state : ByteArray} {r n : Nat} {br : Bool}
theorem NBox.only (h : NBox W d m t p q x b lv dir r n base br state) (ho : Only d m W W') : NBox W' d m t p q x b lv dir r n base br state :=
  ⟨only_cell ho h.cp h.dis.1.1 h.dis.1.2.1, only_cell ho h.cq h.dis.2.1.1 h.dis.2.1.2.1, only_cell ho h.cx h.dis.2.2.1.1 h.dis.2.2.1.2.1, h.st.only ho h.dis.2.2.2.1 h.dis.2.2.2.2.1, h.dis⟩
theorem cell_set_ne {w : World} {a b i j : Nat} {v : Value} (h : a ≠ b) : (w.setCell ⟨b, i, none⟩ v).cell? ⟨a, j, none⟩ = w.cell? ⟨a, j, none⟩ := World.cell?_of_block (Below.heap_setCell _ _ _ _ h)
theorem NBox.set (h : NBox W d m t p q x b lv dir r n base br state) (i : Nat) (v : Value) : NBox (W.setCell ⟨b, i, none⟩ v) d m t p q x b lv dir r n base br state :=
  ⟨(cell_set_ne h.dis.1.2.2).trans h.cp, (cell_set_ne h.dis.2.1.2.2).trans h.cq, (cell_set_ne h.dis.2.2.1.2.2).trans h.cx, (Below.heap_setCell _ _ _ _ h.dis.2.2.2.2.2).trans h.st, h.dis⟩
/-- The cells that a step reads. -/
theorem NBox.cells (h : NBox W d m t p q x b lv dir r n base br state) :
    W.cell? ⟨p, 0, none⟩ = some (.pointer (some ⟨t, 0, none⟩)) ∧ W.cell? ⟨q, 0, none⟩ = some (.string state) ∧ W.cell? ⟨x, 0, none⟩ = some (.int .i64 (n : Int)) ∧ W.cell? ⟨t, 1, none⟩ = some (.pointer (some ⟨d, 0, none⟩)) ∧ W.cell? ⟨t, 2, none⟩ = some (.string dir) ∧ W.cell? ⟨t, 3, none⟩ = some (.int .i64 (r : Int)) :=
  ⟨h.cp, h.cq, h.cx, h.st.facts.2.1, h.st.facts.2.2.1, h.st.facts.2.2.2.1⟩
end
/-- What bounds a store here. -/
structure NFit (dir : ByteArray) (r n : Nat) (state : ByteArray) : Prop where
  dir : dir.size ≤ 1000
  r : r ≤ 1000000
  n : n ≤ 1000000
  state : state.size ≤ 1000000
theorem picName_size {dir : ByteArray} {r : Nat} (hd : dir.size ≤ 1000) (hr : r ≤ 1000000) : (picName dir r).size ≤ 1000000 := by
  unfold picName
  rw [ByteArray.size_append, ByteArray.size_append]
  have := dig_size hr
  show dir.size + 2 + _ ≤ _
  omega
theorem workName_size {dir : ByteArray} (hd : dir.size ≤ 1000) : (workName dir).size ≤ 1000000 := by
  unfold workName
  rw [ByteArray.size_append]
  show dir.size + 2 ≤ _
  omega
theorem lay_size {state : ByteArray} (h : state.size ≤ 1000000) : (⟨(layB state.data.toList).toArray⟩ : ByteArray).size ≤ 4611686018427387904 := by
  rw [Lib.size_eq]
  have h1 := layB_len (l := state.data.toList) (by rw [← Lib.size_eq]; exact h)
  rw [← Lib.size_eq] at h1
  simp only
  omega

theorem NFit.dir' {dir : ByteArray} {r n : Nat} {state : ByteArray} (h : NFit dir r n state) : dir.size ≤ 1000000 := by have := h.dir; omega

set_option maxRecDepth 100000 in
set_option maxHeartbeats 4000000 in
theorem next1_any {d m t p q x b : Nat} {lv : Value} {dir base state : ByteArray} {r n : Nat} {br : Bool} {T : St} {w : World} (hO : T.Ok) (h : IsDisk w d m T) (hc : NBox w d m t p q x b lv dir r n base br state) (hf : NFit dir r n state) :
    Calls Tryz.prog 93 #[.pointer (some ⟨p, 0, none⟩)] w fun e w' => e = .returned (.int .i64 (T.rmIf (workName dir)).1) ∧ IsDisk w' d m (T.rmIf (workName dir)).2 ∧ Only d m w w' := by
  have K0 := Lib.hid (hc.only (only_drew d m w)).cells
  have KK := Lib.hid (fun (W : World) (ho : Only d m w.drew W) => (hc.only ((only_drew d m w).trans ho)).cells)
  have HSS := Lib.hid (fun (W : World) (ho : Only d m w.drew W) => (hc.only ((only_drew d m w).trans ho)).st)
  have HD := Lib.hid h.drew
  have HO := Lib.hid hO
  have HF := Lib.hid hf
  clear hc h hO hf
  go_enter Tryz.func93, Tryz.ntmps93
  go_wp2_with fail
  go_region_held3 (fun w' => w'.cell? ⟨p, 0, none⟩ = some (.pointer (some ⟨t, 0, none⟩)) ∧ w'.cell? ⟨q, 0, none⟩ = some (.string state) ∧ w'.cell? ⟨x, 0, none⟩ = some (.int .i64 (n : Int)) ∧ w'.cell? ⟨t, 1, none⟩ = some (.pointer (some ⟨d, 0, none⟩)) ∧ w'.cell? ⟨t, 2, none⟩ = some (.string dir) ∧ w'.cell? ⟨t, 3, none⟩ = some (.int .i64 (r : Int))) (first | exact K0.out | exact KK.out _ (by first | assumption | exact Only.trans (by assumption) (by assumption))) (first
    | (go_at_call 94; refine (work_any _ (HSS.out _ (by first | assumption | exact Only.refl _ _ _)) HF.out.dir').mono ?_; rintro e w9 ⟨rfl, rfl⟩)
    | (go_at_call 72; refine (walRemove_any HO.out (workName dir) HD.out).mono ?_; rintro e w2 ⟨rfl, hd2, ho2⟩))
  all_goals
    go_wp2
    go_ret
    exact ⟨rfl, hd2, (only_drew d m w).trans ho2⟩

set_option maxRecDepth 100000 in
set_option maxHeartbeats 4000000 in
theorem next2_any {d m t p q x b : Nat} {lv : Value} {dir base state : ByteArray} {r n : Nat} {br : Bool} {T : St} {w : World} (hO : T.Ok) (h : IsDisk w d m T) (hc : NBox w d m t p q x b lv dir r n base br state) (hf : NFit dir r n state) :
    Calls Tryz.prog 95 #[.pointer (some ⟨p, 0, none⟩)] w fun e w' => e = .returned (.int .i64 (T.create (workName dir)).1) ∧ IsDisk w' d m (T.create (workName dir)).2 ∧ Only d m w w' := by
  have K0 := Lib.hid (hc.only (only_drew d m w)).cells
  have KK := Lib.hid (fun (W : World) (ho : Only d m w.drew W) => (hc.only ((only_drew d m w).trans ho)).cells)
  have HSS := Lib.hid (fun (W : World) (ho : Only d m w.drew W) => (hc.only ((only_drew d m w).trans ho)).st)
  have HD := Lib.hid h.drew
  have HO := Lib.hid hO
  have HF := Lib.hid hf
  clear hc h hO hf
  go_enter Tryz.func95, Tryz.ntmps95
  go_wp2_with fail
  go_region_held3 (fun w' => w'.cell? ⟨p, 0, none⟩ = some (.pointer (some ⟨t, 0, none⟩)) ∧ w'.cell? ⟨q, 0, none⟩ = some (.string state) ∧ w'.cell? ⟨x, 0, none⟩ = some (.int .i64 (n : Int)) ∧ w'.cell? ⟨t, 1, none⟩ = some (.pointer (some ⟨d, 0, none⟩)) ∧ w'.cell? ⟨t, 2, none⟩ = some (.string dir) ∧ w'.cell? ⟨t, 3, none⟩ = some (.int .i64 (r : Int))) (first | exact K0.out | exact KK.out _ (by first | assumption | exact Only.trans (by assumption) (by assumption))) (first
    | (go_at_call 94; refine (work_any _ (HSS.out _ (by first | assumption | exact Only.refl _ _ _)) HF.out.dir').mono ?_; rintro e w9 ⟨rfl, rfl⟩)
    | (go_at_call 37; refine (create_ok HO.out (workName dir) (by have := workName_size HF.out.dir; omega) HD.out).mono ?_; rintro e w2 ⟨rfl, hd2, ho2⟩))
  all_goals
    go_wp2
    go_ret
    exact ⟨rfl, hd2, (only_drew d m w).trans ho2⟩

set_option maxRecDepth 100000 in
set_option maxHeartbeats 4000000 in
theorem next3_any {d m t p q x b : Nat} {lv : Value} {dir base state : ByteArray} {r n : Nat} {br : Bool} {T : St} {w : World} (hO : T.Ok) (h : IsDisk w d m T) (hc : NBox w d m t p q x b lv dir r n base br state) (hf : NFit dir r n state) :
    Calls Tryz.prog 96 #[.pointer (some ⟨p, 0, none⟩), .pointer (some ⟨q, 0, none⟩)] w fun e w' => e = .returned (.int .i64 (T.append (workName dir) ⟨(layB state.data.toList).toArray⟩).1) ∧ IsDisk w' d m (T.append (workName dir) ⟨(layB state.data.toList).toArray⟩).2 ∧ Only d m w w' := by
  have K0 := Lib.hid (hc.only (only_drew d m w)).cells
  have KK := Lib.hid (fun (W : World) (ho : Only d m w.drew W) => (hc.only ((only_drew d m w).trans ho)).cells)
  have HSS := Lib.hid (fun (W : World) (ho : Only d m w.drew W) => (hc.only ((only_drew d m w).trans ho)).st)
  have HD := Lib.hid h.drew
  have HO := Lib.hid hO
  have HF := Lib.hid hf
  clear hc h hO hf
  go_enter Tryz.func96, Tryz.ntmps96
  go_wp2_with fail
  go_region_held3 (fun w' => w'.cell? ⟨p, 0, none⟩ = some (.pointer (some ⟨t, 0, none⟩)) ∧ w'.cell? ⟨q, 0, none⟩ = some (.string state) ∧ w'.cell? ⟨x, 0, none⟩ = some (.int .i64 (n : Int)) ∧ w'.cell? ⟨t, 1, none⟩ = some (.pointer (some ⟨d, 0, none⟩)) ∧ w'.cell? ⟨t, 2, none⟩ = some (.string dir) ∧ w'.cell? ⟨t, 3, none⟩ = some (.int .i64 (r : Int))) (first | exact K0.out | exact KK.out _ (by first | assumption | exact Only.trans (by assumption) (by assumption))) (first
    | (go_at_call 94; refine (work_any _ (HSS.out _ (by first | assumption | exact Only.refl _ _ _)) HF.out.dir').mono ?_; rintro e w9 ⟨rfl, rfl⟩)
    | (go_at_call 90; refine (lay_any state _ HF.out.state).mono ?_; rintro e w1 ⟨rfl, hb1⟩; have ho1 := Only.of_below (d := d) (m := m) hb1)
    | (go_at_call 19; refine (append_ok HO.out (workName dir) ⟨(layB state.data.toList).toArray⟩ (lay_size HF.out.state) (HD.out.later hb1)).mono ?_; rintro e w2 ⟨rfl, hd2, ho2⟩))
  all_goals
    go_wp2
    go_ret
    exact ⟨rfl, hd2, (only_drew d m w).trans (ho1.trans ho2)⟩

set_option maxRecDepth 100000 in
set_option maxHeartbeats 4000000 in
theorem next4_any {d m t p q x b : Nat} {lv : Value} {dir base state : ByteArray} {r n : Nat} {br : Bool} {T : St} {w : World} (hO : T.Ok) (h : IsDisk w d m T) (hc : NBox w d m t p q x b lv dir r n base br state) (hf : NFit dir r n state) :
    Calls Tryz.prog 97 #[.pointer (some ⟨p, 0, none⟩)] w fun e w' => e = .returned (.int .i64 (T.sync (workName dir)).1) ∧ IsDisk w' d m (T.sync (workName dir)).2 ∧ Only d m w w' := by
  have K0 := Lib.hid (hc.only (only_drew d m w)).cells
  have KK := Lib.hid (fun (W : World) (ho : Only d m w.drew W) => (hc.only ((only_drew d m w).trans ho)).cells)
  have HSS := Lib.hid (fun (W : World) (ho : Only d m w.drew W) => (hc.only ((only_drew d m w).trans ho)).st)
  have HD := Lib.hid h.drew
  have HO := Lib.hid hO
  have HF := Lib.hid hf
  clear hc h hO hf
  go_enter Tryz.func97, Tryz.ntmps97
  go_wp2_with fail
  go_region_held3 (fun w' => w'.cell? ⟨p, 0, none⟩ = some (.pointer (some ⟨t, 0, none⟩)) ∧ w'.cell? ⟨q, 0, none⟩ = some (.string state) ∧ w'.cell? ⟨x, 0, none⟩ = some (.int .i64 (n : Int)) ∧ w'.cell? ⟨t, 1, none⟩ = some (.pointer (some ⟨d, 0, none⟩)) ∧ w'.cell? ⟨t, 2, none⟩ = some (.string dir) ∧ w'.cell? ⟨t, 3, none⟩ = some (.int .i64 (r : Int))) (first | exact K0.out | exact KK.out _ (by first | assumption | exact Only.trans (by assumption) (by assumption))) (first
    | (go_at_call 94; refine (work_any _ (HSS.out _ (by first | assumption | exact Only.refl _ _ _)) HF.out.dir').mono ?_; rintro e w9 ⟨rfl, rfl⟩)
    | (go_at_call 47; refine (sync_ok HO.out (workName dir) HD.out).mono ?_; rintro e w2 ⟨rfl, hd2, ho2⟩))
  all_goals
    go_wp2
    go_ret
    exact ⟨rfl, hd2, (only_drew d m w).trans ho2⟩

set_option maxRecDepth 100000 in
set_option maxHeartbeats 4000000 in
theorem next5_any {d m t p q x b : Nat} {lv : Value} {dir base state : ByteArray} {r n : Nat} {br : Bool} {T : St} {w : World} (hO : T.Ok) (h : IsDisk w d m T) (hc : NBox w d m t p q x b lv dir r n base br state) (hf : NFit dir r n state) :
    Calls Tryz.prog 98 #[.pointer (some ⟨p, 0, none⟩), .pointer (some ⟨x, 0, none⟩)] w fun e w' => e = .returned (.int .i64 (T.rename (workName dir) (picName dir n)).1) ∧ IsDisk w' d m (T.rename (workName dir) (picName dir n)).2 ∧ Only d m w w' := by
  have K0 := Lib.hid (hc.only (only_drew d m w)).cells
  have KK := Lib.hid (fun (W : World) (ho : Only d m w.drew W) => (hc.only ((only_drew d m w).trans ho)).cells)
  have HSS := Lib.hid (fun (W : World) (ho : Only d m w.drew W) => (hc.only ((only_drew d m w).trans ho)).st)
  have HD := Lib.hid h.drew
  have HO := Lib.hid hO
  have HF := Lib.hid hf
  clear hc h hO hf
  go_enter Tryz.func98, Tryz.ntmps98
  go_wp2_with fail
  go_region_held3 (fun w' => w'.cell? ⟨p, 0, none⟩ = some (.pointer (some ⟨t, 0, none⟩)) ∧ w'.cell? ⟨q, 0, none⟩ = some (.string state) ∧ w'.cell? ⟨x, 0, none⟩ = some (.int .i64 (n : Int)) ∧ w'.cell? ⟨t, 1, none⟩ = some (.pointer (some ⟨d, 0, none⟩)) ∧ w'.cell? ⟨t, 2, none⟩ = some (.string dir) ∧ w'.cell? ⟨t, 3, none⟩ = some (.int .i64 (r : Int))) (first | exact K0.out | exact KK.out _ (by first | assumption | exact Only.trans (by assumption) (by assumption))) (first
    | (go_at_call 94; refine (work_any _ (HSS.out _ (by first | assumption | exact Only.refl _ _ _)) HF.out.dir').mono ?_; rintro e w9 ⟨rfl, rfl⟩)
    | (go_at_call 57; refine (picture_any _ (HSS.out _ (by first | assumption | exact Only.refl _ _ _)) n HF.out.n HF.out.dir').mono ?_; rintro e w1 ⟨rfl, hb1⟩; have ho1 := Only.of_below (d := d) (m := m) hb1)
    | (go_at_call 77; refine (rename_okay HO.out (workName dir) (picName dir n) (by have := picName_size HF.out.dir HF.out.n; omega) (HD.out.later hb1)).mono ?_; rintro e w2 ⟨rfl, hd2, ho2⟩))
  all_goals
    go_wp2
    go_ret
    exact ⟨rfl, hd2, (only_drew d m w).trans (ho1.trans ho2)⟩

set_option maxRecDepth 100000 in
set_option maxHeartbeats 4000000 in
theorem next7_any {d m t p q x b : Nat} {lv : Value} {dir base state : ByteArray} {r n : Nat} {br : Bool} {T : St} {w : World} (hO : T.Ok) (h : IsDisk w d m T) (hc : NBox w d m t p q x b lv dir r n base br state) (hf : NFit dir r n state) :
    Calls Tryz.prog 100 #[.pointer (some ⟨p, 0, none⟩)] w fun e w' => e = .returned (.int .i64 (T.rmIf (picName dir r)).1) ∧ IsDisk w' d m (T.rmIf (picName dir r)).2 ∧ Only d m w w' := by
  have K0 := Lib.hid (hc.only (only_drew d m w)).cells
  have KK := Lib.hid (fun (W : World) (ho : Only d m w.drew W) => (hc.only ((only_drew d m w).trans ho)).cells)
  have HSS := Lib.hid (fun (W : World) (ho : Only d m w.drew W) => (hc.only ((only_drew d m w).trans ho)).st)
  have HD := Lib.hid h.drew
  have HO := Lib.hid hO
  have HF := Lib.hid hf
  clear hc h hO hf
  go_enter Tryz.func100, Tryz.ntmps100
  go_wp2_with fail
  go_region_held3 (fun w' => w'.cell? ⟨p, 0, none⟩ = some (.pointer (some ⟨t, 0, none⟩)) ∧ w'.cell? ⟨q, 0, none⟩ = some (.string state) ∧ w'.cell? ⟨x, 0, none⟩ = some (.int .i64 (n : Int)) ∧ w'.cell? ⟨t, 1, none⟩ = some (.pointer (some ⟨d, 0, none⟩)) ∧ w'.cell? ⟨t, 2, none⟩ = some (.string dir) ∧ w'.cell? ⟨t, 3, none⟩ = some (.int .i64 (r : Int))) (first | exact K0.out | exact KK.out _ (by first | assumption | exact Only.trans (by assumption) (by assumption))) (first
    | (go_at_call 57; refine (picture_any _ (HSS.out _ (by first | assumption | exact Only.refl _ _ _)) r HF.out.r HF.out.dir').mono ?_; rintro e w1 ⟨rfl, hb1⟩; have ho1 := Only.of_below (d := d) (m := m) hb1)
    | (go_at_call 72; refine (walRemove_any HO.out (picName dir r) (HD.out.later hb1)).mono ?_; rintro e w2 ⟨rfl, hd2, ho2⟩))
  all_goals
    go_wp2
    go_ret
    exact ⟨rfl, hd2, (only_drew d m w).trans (ho1.trans ho2)⟩

set_option maxRecDepth 100000 in
set_option maxHeartbeats 4000000 in
theorem next8_any {d m t p q x b : Nat} {lv : Value} {dir base state : ByteArray} {r n : Nat} {br : Bool} {T : St} {w : World} (hO : T.Ok) (h : IsDisk w d m T) (hc : NBox w d m t p q x b lv dir r n base br state) (hf : NFit dir r n state) :
    Calls Tryz.prog 101 #[.pointer (some ⟨p, 0, none⟩)] w fun e w' => e = .returned (.int .i64 (T.rmIf (logName dir r)).1) ∧ IsDisk w' d m (T.rmIf (logName dir r)).2 ∧ Only d m w w' := by
  have K0 := Lib.hid (hc.only (only_drew d m w)).cells
  have KK := Lib.hid (fun (W : World) (ho : Only d m w.drew W) => (hc.only ((only_drew d m w).trans ho)).cells)
  have HSS := Lib.hid (fun (W : World) (ho : Only d m w.drew W) => (hc.only ((only_drew d m w).trans ho)).st)
  have HD := Lib.hid h.drew
  have HO := Lib.hid hO
  have HF := Lib.hid hf
  clear hc h hO hf
  go_enter Tryz.func101, Tryz.ntmps101
  go_wp2_with fail
  go_region_held3 (fun w' => w'.cell? ⟨p, 0, none⟩ = some (.pointer (some ⟨t, 0, none⟩)) ∧ w'.cell? ⟨q, 0, none⟩ = some (.string state) ∧ w'.cell? ⟨x, 0, none⟩ = some (.int .i64 (n : Int)) ∧ w'.cell? ⟨t, 1, none⟩ = some (.pointer (some ⟨d, 0, none⟩)) ∧ w'.cell? ⟨t, 2, none⟩ = some (.string dir) ∧ w'.cell? ⟨t, 3, none⟩ = some (.int .i64 (r : Int))) (first | exact K0.out | exact KK.out _ (by first | assumption | exact Only.trans (by assumption) (by assumption))) (first
    | (go_at_call 59; refine (slog_any _ (HSS.out _ (by first | assumption | exact Only.refl _ _ _)) r HF.out.r HF.out.dir').mono ?_; rintro e w1 ⟨rfl, hb1⟩; have ho1 := Only.of_below (d := d) (m := m) hb1)
    | (go_at_call 72; refine (walRemove_any HO.out (logName dir r) (HD.out.later hb1)).mono ?_; rintro e w2 ⟨rfl, hd2, ho2⟩))
  all_goals
    go_wp2
    go_ret
    exact ⟨rfl, hd2, (only_drew d m w).trans (ho1.trans ho2)⟩

/-! A Save's step that opens the new log. -/

/-- A box of its own. -/
def BoxAt (w : World) (b : Nat) (e : TypeId) (v : Value) : Prop := w.heap[b]? = some (.cells #[v] e (0, 0))
theorem BoxAt.cell {w : World} {b : Nat} {e : TypeId} {v : Value} (h : BoxAt w b e v) : w.cell? ⟨b, 0, none⟩ = some v := by
  have h' : w.heap[b]? = _ := h
  simp [World.cell?, h']
theorem BoxAt.free {w : World} {b : Nat} {e : TypeId} {v : Value} (h : BoxAt w b e v) : w.frozen? ⟨b, 0, none⟩ = false := by
  have h' : w.heap[b]? = _ := h
  simp [World.frozen?, h']
theorem BoxAt.lt {w : World} {b : Nat} {e : TypeId} {v : Value} (h : BoxAt w b e v) : b < w.heap.size := (Array.getElem?_eq_some_iff.1 h).1
theorem BoxAt.only {w w' : World} {d m b : Nat} {e : TypeId} {v : Value} (h : BoxAt w b e v) (ho : Only d m w w') (h1 : b ≠ d) (h2 : b ≠ m) : BoxAt w' b e v := (ho.block b h.lt h1 h2).trans h
theorem BoxAt.set {w : World} {b : Nat} {e : TypeId} {v : Value} (h : BoxAt w b e v) (v' : Value) : BoxAt (w.setCell ⟨b, 0, none⟩ v') b e v' := setCell_row h _

def StepLog (o : Int × St × Option LSt) (d m b : Nat) (w : World) (e : Ending) (w' : World) : Prop :=
  ∃ W1 v, w' = W1.setCell ⟨b, 0, none⟩ v ∧ Only d m w W1 ∧ IsDisk W1 d m o.2.1 ∧ match o.2.2 with
    | none => e = .returned (.int .i64 o.1)
    | some L => e = .returned (.int .i64 0) ∧ ∃ g rv, v = .pointer (some ⟨g, 0, none⟩) ∧ w.heap.size ≤ g ∧ IsLog W1 w.heap.size g d rv L

set_option maxRecDepth 100000 in
set_option maxHeartbeats 4000000 in
theorem next6_any {d m t p q x b : Nat} {lv v0 : Value} {dir base state : ByteArray} {r n : Nat} {br : Bool} {T : St} {w : World} (hO : T.Ok) (h : IsDisk w d m T) (hc : NBox w d m t p q x b lv dir r n base br state) (hf : NFit dir r n state) (hb : BoxAt w b 24 v0) (hbd : b ≠ d) (hbm : b ≠ m) :
    Calls Tryz.prog 99 #[.pointer (some ⟨p, 0, none⟩), .pointer (some ⟨x, 0, none⟩), .pointer (some ⟨b, 0, none⟩)] w (StepLog (T.openLog (logName dir n)) d m b w) := by
  have K0 := Lib.hid (hc.only (only_drew d m w)).cells
  have KK := Lib.hid (fun (W : World) (ho : Only d m w.drew W) => (hc.only ((only_drew d m w).trans ho)).cells)
  have KS := Lib.hid (fun (W : World) (v : Value) (ho : Only d m w.drew W) => ((hc.only ((only_drew d m w).trans ho)).set 0 v).cells)
  have HSS := Lib.hid (fun (W : World) (ho : Only d m w.drew W) => (hc.only ((only_drew d m w).trans ho)).st)
  have HBB := Lib.hid (fun (W : World) (ho : Only d m w.drew W) => (hb.only ((only_drew d m w).trans ho) hbd hbm))
  have HD := Lib.hid h.drew
  have HO := Lib.hid hO
  have HF := Lib.hid hf
  have HWD := Lib.hid (show w.drew.heap.size = w.heap.size from rfl)
  clear hc h hO hf
  have HOP := Lib.hid (fun (W : World) (hd : IsDisk W d m T) => open_any HO.out hd (logName dir n) (logName_size HF.out.dir HF.out.n))
  unfold StepLog
  cases hl : (T.openLog (logName dir n)).2.2 with
  | none =>
    have HOQ := Lib.hid (fun (W : World) (hd : IsDisk W d m T) => (HOP.out W hd).mono (R' := fun e w' => e = .returned (.tuple #[.pointer none, .int .i64 (T.openLog (logName dir n)).1]) ∧ IsDisk w' d m (T.openLog (logName dir n)).2.1 ∧ Only d m W w') (by
      rintro e w' ⟨h1, h2, h3⟩
      rw [hl] at h3
      exact ⟨h3, h1, h2⟩))
    generalize (T.openLog (logName dir n)).2.1 = T1 at *
    generalize (T.openLog (logName dir n)).1 = e1 at *
    clear hl HOP
    go_enter Tryz.func99, Tryz.ntmps99
    go_wp2_with fail
    go_region_held3 (fun w' => w'.cell? ⟨p, 0, none⟩ = some (.pointer (some ⟨t, 0, none⟩)) ∧ w'.cell? ⟨x, 0, none⟩ = some (.int .i64 (n : Int)) ∧ w'.cell? ⟨t, 1, none⟩ = some (.pointer (some ⟨d, 0, none⟩))) (first
      | exact ⟨K0.out.1, K0.out.2.2.1, K0.out.2.2.2.1⟩ | exact ⟨(KK.out _ (by assumption)).1, (KK.out _ (by assumption)).2.2.1, (KK.out _ (by assumption)).2.2.2.1⟩ | exact ⟨(KS.out _ _ (by assumption)).1, (KS.out _ _ (by assumption)).2.2.1, (KS.out _ _ (by assumption)).2.2.2.1⟩) (first
      | (go_at_call 59; refine (slog_any _ (HSS.out _ (by first | assumption | exact Only.refl _ _ _)) n HF.out.n HF.out.dir').mono ?_; rintro e w1 ⟨rfl, hb1⟩; have ho1 := Only.of_below (d := d) (m := m) hb1)
      | (go_at_call 12; refine (HOQ.out _ (HD.out.later hb1)).mono ?_; rintro e w2 ⟨rfl, hd2, ho2⟩; have ho12 := ho1.trans ho2; have fb := (HBB.out _ ho12).free; have cb := (HBB.out _ ho12).cell))
    all_goals
      go_wp2
      go_ret
      exact ⟨w2, .pointer none, rfl, (only_drew d m w).trans ho12, hd2, rfl⟩
  | some L =>
    have HOQ := Lib.hid (fun (W : World) (hd : IsDisk W d m T) => (HOP.out W hd).mono (R' := fun e w' => ∃ g rv, e = .returned (.tuple #[.pointer (some ⟨g, 0, none⟩), .int .i64 0]) ∧ W.heap.size ≤ g ∧ IsLog w' W.heap.size g d rv L ∧ IsDisk w' d m (T.openLog (logName dir n)).2.1 ∧ Only d m W w') (by
      rintro e w' ⟨h1, h2, h3⟩
      rw [hl] at h3
      obtain ⟨g, rv, h4, h5, h6⟩ := h3
      exact ⟨g, rv, h4, h5, h6, h1, h2⟩))
    generalize (T.openLog (logName dir n)).2.1 = T1 at *
    clear hl HOP
    go_enter Tryz.func99, Tryz.ntmps99
    go_wp2_with fail
    go_region_held3 (fun w' => w'.cell? ⟨p, 0, none⟩ = some (.pointer (some ⟨t, 0, none⟩)) ∧ w'.cell? ⟨x, 0, none⟩ = some (.int .i64 (n : Int)) ∧ w'.cell? ⟨t, 1, none⟩ = some (.pointer (some ⟨d, 0, none⟩))) (first
      | exact ⟨K0.out.1, K0.out.2.2.1, K0.out.2.2.2.1⟩ | exact ⟨(KK.out _ (by assumption)).1, (KK.out _ (by assumption)).2.2.1, (KK.out _ (by assumption)).2.2.2.1⟩ | exact ⟨(KS.out _ _ (by assumption)).1, (KS.out _ _ (by assumption)).2.2.1, (KS.out _ _ (by assumption)).2.2.2.1⟩) (first
      | (go_at_call 59; refine (slog_any _ (HSS.out _ (by first | assumption | exact Only.refl _ _ _)) n HF.out.n HF.out.dir').mono ?_; rintro e w1 ⟨rfl, hb1⟩; have ho1 := Only.of_below (d := d) (m := m) hb1)
      | (go_at_call 12; refine (HOQ.out _ (HD.out.later hb1)).mono ?_; rintro e w2 ⟨g, rv, rfl, hg2, hl2, hd2, ho2⟩; have HG2 := Lib.hid hg2; have HL2 := Lib.hid hl2; clear hg2 hl2; have ho12 := ho1.trans ho2; have fb := (HBB.out _ ho12).free; have cb := (HBB.out _ ho12).cell))
    all_goals
      have HSZ := Lib.hid (show w.heap.size ≤ w1.heap.size from hb1.size)
      go_wp2
      go_ret
      exact ⟨w2, .pointer (some ⟨g, 0, none⟩), rfl, (only_drew d m w).trans ho12, hd2, rfl, g, rv, rfl, Nat.le_trans HSZ.out HG2.out, HL2.out.mono HSZ.out⟩

/-! next does a Save's steps, one behind the other. -/

def savesA (dir : ByteArray) (n : Nat) (state : ByteArray) : List (St → Int × St) :=
  [fun T => T.rmIf (workName dir), fun T => T.create (workName dir), fun T => T.append (workName dir) ⟨(layB state.data.toList).toArray⟩, fun T => T.sync (workName dir), fun T => T.rename (workName dir) (picName dir n)]
def savesB (dir : ByteArray) (r : Nat) : List (St → Int × St) := [fun T => T.rmIf (picName dir r), fun T => T.rmIf (logName dir r)]
theorem savesA_ok (dir : ByteArray) (n : Nat) (state : ByteArray) : ∀ f ∈ savesA dir n state, ∀ T : St, T.Ok → (f T).2.Ok := by
  intro f hf T hT
  simp only [savesA, List.mem_cons, List.not_mem_nil, or_false] at hf
  rcases hf with rfl | rfl | rfl | rfl | rfl
  · exact hT.rmIf _
  · exact hT.create _
  · exact hT.append _ _
  · exact hT.sync _
  · exact hT.rename _ _
theorem savesB_ok (dir : ByteArray) (r : Nat) : ∀ f ∈ savesB dir r, ∀ T : St, T.Ok → (f T).2.Ok := by
  intro f hf T hT
  simp only [savesB, List.mem_cons, List.not_mem_nil, or_false] at hf
  rcases hf with rfl | rfl
  · exact hT.rmIf _
  · exact hT.rmIf _
/-- What a Save's steps come to. -/
def St.save (S : St) (dir : ByteArray) (r n : Nat) (state : ByteArray) : Int × St × Option LSt :=
  if (runSteps (savesA dir n state) S).1 = 0 then
    match ((runSteps (savesA dir n state) S).2.openLog (logName dir n)).2.2 with
    | none => (((runSteps (savesA dir n state) S).2.openLog (logName dir n)).1, ((runSteps (savesA dir n state) S).2.openLog (logName dir n)).2.1, none)
    | some L => if (runSteps (savesB dir r) ((runSteps (savesA dir n state) S).2.openLog (logName dir n)).2.1).1 = 0
        then (0, (runSteps (savesB dir r) ((runSteps (savesA dir n state) S).2.openLog (logName dir n)).2.1).2, some L)
        else ((runSteps (savesB dir r) ((runSteps (savesA dir n state) S).2.openLog (logName dir n)).2.1).1, (runSteps (savesB dir r) ((runSteps (savesA dir n state) S).2.openLog (logName dir n)).2.1).2, none)
  else ((runSteps (savesA dir n state) S).1, (runSteps (savesA dir n state) S).2, none)
theorem St.Ok.save {S : St} (h : S.Ok) (dir : ByteArray) (r n : Nat) (state : ByteArray) : (S.save dir r n state).2.1.Ok := by
  have hA := runSteps_ok (savesA_ok dir n state) h
  have hL := openLog_ok hA (logName dir n)
  have hB := runSteps_ok (savesB_ok dir r) hL
  unfold St.save
  split
  · split
    · exact hL
    · split
      · exact hB
      · exact hB
  · exact hA

def nextFi (k : Nat) : Nat := match k with
  | 0 => 93
  | 1 => 95
  | 2 => 96
  | 3 => 97
  | 4 => 98
  | 5 => 99
  | 6 => 100
  | _ => 101
def nextCaps (p q x b : Nat) (k : Nat) : Array Value := match k with
  | 2 => #[.pointer (some ⟨p, 0, none⟩), .pointer (some ⟨q, 0, none⟩)]
  | 4 => #[.pointer (some ⟨p, 0, none⟩), .pointer (some ⟨x, 0, none⟩)]
  | 5 => #[.pointer (some ⟨p, 0, none⟩), .pointer (some ⟨x, 0, none⟩), .pointer (some ⟨b, 0, none⟩)]
  | _ => #[.pointer (some ⟨p, 0, none⟩)]

/-- What the steps stand on. -/
structure NextAt (W w0 : World) (d m t p q x b sb : Nat) (lv : Value) (dir : ByteArray) (r n : Nat) (base : ByteArray) (br : Bool) (state : ByteArray) : Prop where
  box : NBox W d m t p q x b lv dir r n base br state
  fns : ∀ k, k < 8 → W.cell? ⟨sb, k, none⟩ = some (.func (.func (nextFi k)) #[] (nextCaps p q x b k))
  sep : (sb ≠ d ∧ sb ≠ m ∧ sb ≠ b) ∧ (b ≠ d ∧ b ≠ m) ∧ w0.heap.size ≤ b
  only : Only d m w0 W
section
variable {W W' w0 : World} {d m t p q x b sb : Nat} {lv : Value} {dir base state : ByteArray} {r n : Nat} {br : Bool} {S : St}
theorem NextAt.next (h : NextAt W w0 d m t p q x b sb lv dir r n base br state) (ho : Only d m W W') : NextAt W' w0 d m t p q x b sb lv dir r n base br state :=
  ⟨h.box.only ho, fun k hk => only_cell ho (h.fns k hk) h.sep.1.1 h.sep.1.2.1, h.sep, h.only.trans ho⟩
theorem NextAt.set (h : NextAt W w0 d m t p q x b sb lv dir r n base br state) (v : Value) : NextAt (W.setCell ⟨b, 0, none⟩ v) w0 d m t p q x b sb lv dir r n base br state :=
  ⟨h.box.set 0 v, fun k hk => (cell_set_ne h.sep.1.2.2).trans (h.fns k hk), h.sep, h.only.of_tt ((Only.refl b b W).setCell 0 v) h.sep.2.2⟩

/-- Behind k steps that went well. -/
def NextP (S : St) (w0 : World) (d m t p q x b sb : Nat) (lv : Value) (dir : ByteArray) (r n : Nat) (base : ByteArray) (br : Bool) (state : ByteArray) (k : Nat) (W : World) : Prop :=
  NextAt W w0 d m t p q x b sb lv dir r n base br state ∧ ∃ T : St, IsDisk W d m T ∧ T.Ok ∧
    ((k ≤ 5 ∧ BoxAt W b 24 (.pointer none) ∧ runSteps (savesA dir n state) S = runSteps ((savesA dir n state).drop k) T) ∨
     (6 ≤ k ∧ ∃ L g rv, BoxAt W b 24 (.pointer (some ⟨g, 0, none⟩)) ∧ w0.heap.size ≤ g ∧ b < g ∧ IsLog W w0.heap.size g d rv L ∧ rv.ownBlock ≠ some b ∧ (runSteps (savesA dir n state) S).1 = 0 ∧ ((runSteps (savesA dir n state) S).2.openLog (logName dir n)).2.2 = some L ∧
       runSteps (savesB dir r) ((runSteps (savesA dir n state) S).2.openLog (logName dir n)).2.1 = runSteps ((savesB dir r).drop (k - 6)) T))
/-- Behind a step that did not. -/
def NextQ (S : St) (w0 : World) (d m t p q x b sb : Nat) (lv : Value) (dir : ByteArray) (r n : Nat) (base : ByteArray) (br : Bool) (state : ByteArray) (y : Int) (W : World) : Prop :=
  NextAt W w0 d m t p q x b sb lv dir r n base br state ∧ ∃ T : St, IsDisk W d m T ∧ S.save dir r n state = (y, T, none)

theorem nextA_out {k : Nat} {T : St} {f : St → Int × St} {e : Ending} (hk : k < 5) (hfk : (savesA dir n state)[k]? = some f) (hat : NextAt W w0 d m t p q x b sb lv dir r n base br state) (hT : T.Ok) (hb : BoxAt W b 24 (.pointer none))
    (he : runSteps (savesA dir n state) S = runSteps ((savesA dir n state).drop k) T) (hout : e = .returned (.int .i64 (f T).1) ∧ IsDisk W' d m (f T).2 ∧ Only d m W W') :
    StepOut (NextP S w0 d m t p q x b sb lv dir r n base br state) (NextQ S w0 d m t p q x b sb lv dir r n base br state) k e W' := by
  obtain ⟨rfl, hd, ho⟩ := hout
  obtain ⟨hlt, hf⟩ := List.getElem?_eq_some_iff.1 hfk
  have hdrop : (savesA dir n state).drop k = f :: (savesA dir n state).drop (k + 1) := by rw [List.drop_eq_getElem_cons hlt, hf]
  rw [hdrop] at he
  refine ⟨_, rfl, fun h0 => ⟨hat.next ho, _, hd, savesA_ok dir n state f (hf ▸ List.getElem_mem hlt) T hT, .inl ⟨by omega, hb.only ho hat.sep.2.1.1 hat.sep.2.1.2, ?_⟩⟩, fun h0 => ⟨hat.next ho, _, hd, ?_⟩⟩
  · rw [he]; show (if _ then _ else _) = _; rw [if_pos h0]
  · have he' : runSteps (savesA dir n state) S = f T := by rw [he]; show (if _ then _ else _) = _; rw [if_neg h0]
    unfold St.save
    rw [he', if_neg h0]
theorem nextB_out {k : Nat} {T : St} {f : St → Int × St} {e : Ending} {L : LSt} {g : Nat} {rv : Value} (hk : 6 ≤ k) (hfk : (savesB dir r)[k - 6]? = some f) (hat : NextAt W w0 d m t p q x b sb lv dir r n base br state) (hD : IsDisk W d m T) (hT : T.Ok) (hb : BoxAt W b 24 (.pointer (some ⟨g, 0, none⟩)))
    (hg : w0.heap.size ≤ g) (hbg : b < g) (hl : IsLog W w0.heap.size g d rv L) (hrb : rv.ownBlock ≠ some b) (h5 : (runSteps (savesA dir n state) S).1 = 0) (hL : ((runSteps (savesA dir n state) S).2.openLog (logName dir n)).2.2 = some L)
    (he : runSteps (savesB dir r) ((runSteps (savesA dir n state) S).2.openLog (logName dir n)).2.1 = runSteps ((savesB dir r).drop (k - 6)) T) (hout : e = .returned (.int .i64 (f T).1) ∧ IsDisk W' d m (f T).2 ∧ Only d m W W') :
    StepOut (NextP S w0 d m t p q x b sb lv dir r n base br state) (NextQ S w0 d m t p q x b sb lv dir r n base br state) k e W' := by
  obtain ⟨rfl, hd, ho⟩ := hout
  obtain ⟨hlt, hf⟩ := List.getElem?_eq_some_iff.1 hfk
  have hdrop : (savesB dir r).drop (k - 6) = f :: (savesB dir r).drop (k + 1 - 6) := by rw [List.drop_eq_getElem_cons hlt, hf, show k + 1 - 6 = k - 6 + 1 by omega]
  rw [hdrop] at he
  refine ⟨_, rfl, fun h0 => ⟨hat.next ho, _, hd, savesB_ok dir r f (hf ▸ List.getElem_mem hlt) T hT, .inr ⟨by omega, L, g, rv, hb.only ho hat.sep.2.1.1 hat.sep.2.1.2, hg, hbg, hl.only hD ho, hrb, h5, hL, ?_⟩⟩, fun h0 => ⟨hat.next ho, _, hd, ?_⟩⟩
  · rw [he]; show (if _ then _ else _) = _; rw [if_pos h0]
  · have he' : runSteps (savesB dir r) ((runSteps (savesA dir n state) S).2.openLog (logName dir n)).2.1 = f T := by rw [he]; show (if _ then _ else _) = _; rw [if_neg h0]
    unfold St.save
    rw [if_pos h5, hL]
    simp only
    rw [he', if_neg h0]
end

theorem nextStep {S : St} {w0 : World} {d m t p q x b sb : Nat} {lv : Value} {dir base state : ByteArray} {r n : Nat} {br : Bool} (hf : NFit dir r n state) (k : Nat) (hk : k < 8) (W : World) (h : NextP S w0 d m t p q x b sb lv dir r n base br state k W) :
    Calls Tryz.prog (nextFi k) (nextCaps p q x b k) W (StepOut (NextP S w0 d m t p q x b sb lv dir r n base br state) (NextQ S w0 d m t p q x b sb lv dir r n base br state) k) := by
  obtain ⟨hat, T, hD, hT, ⟨hk5, hb, he⟩ | ⟨hk6, L, g, rv, hb, hg, hbg, hl, hrb, h5, hL, he⟩⟩ := h
  · match k, hk, hk5 with
    | 0, _, _ => exact (next1_any hT hD hat.box hf).mono fun e W' ho => nextA_out (by decide) rfl hat hT hb he ho
    | 1, _, _ => exact (next2_any hT hD hat.box hf).mono fun e W' ho => nextA_out (by decide) rfl hat hT hb he ho
    | 2, _, _ => exact (next3_any hT hD hat.box hf).mono fun e W' ho => nextA_out (by decide) rfl hat hT hb he ho
    | 3, _, _ => exact (next4_any hT hD hat.box hf).mono fun e W' ho => nextA_out (by decide) rfl hat hT hb he ho
    | 4, _, _ => exact (next5_any hT hD hat.box hf).mono fun e W' ho => nextA_out (by decide) rfl hat hT hb he ho
    | 5, _, _ =>
      refine (next6_any hT hD hat.box hf hb hat.sep.2.1.1 hat.sep.2.1.2).mono ?_
      rintro e W' ⟨W1, v, rfl, ho, hd1, hm⟩
      have he' : runSteps (savesA dir n state) S = (0, T) := he
      have hset : IsDisk (W1.setCell ⟨b, 0, none⟩ v) d m (T.openLog (logName dir n)).2.1 := hd1.set_tt hat.sep.2.1.1 hat.sep.2.1.2
      have hOk := openLog_ok hT (logName dir n)
      cases hl : (T.openLog (logName dir n)).2.2 with
      | none =>
        rw [hl] at hm
        simp only at hm
        refine ⟨_, hm, fun h0 => absurd h0 (openLog_none hl), fun h0 => ⟨(hat.next ho).set v, _, hset, ?_⟩⟩
        unfold St.save
        rw [he', if_pos rfl]
        simp only
        rw [hl]
      | some L =>
        rw [hl] at hm
        obtain ⟨rfl, g, rv, rfl, hg, hlog⟩ := hm
        have hsz := hat.only.size
        have hbl := hb.lt
        refine ⟨0, rfl, fun _ => ⟨(hat.next ho).set _, _, hset, hOk, .inr ⟨Nat.le_refl _, L, g, rv, (hb.only ho hat.sep.2.1.1 hat.sep.2.1.2).set _, by omega, by omega, (hlog.set (by omega) (by omega)).mono hsz, fun q => by have := (hlog.row b q).1; omega, by rw [he'], by rw [he']; exact hl, by rw [he']; rfl⟩⟩, fun h0 => absurd rfl h0⟩
  · match k, hk, hk6 with
    | 6, _, _ => exact (next7_any hT hD hat.box hf).mono fun e W' ho => nextB_out (by decide) rfl hat hD hT hb hg hbg hl hrb h5 hL he ho
    | 7, _, _ => exact (next8_any hT hD hat.box hf).mono fun e W' ho => nextB_out (by decide) rfl hat hD hT hb hg hbg hl hrb h5 hL he ho

/-! next, Save, Commit, Base, Round of a store. -/

/-- The world in which the steps are done. -/
def nextW (w : World) (t : Nat) (state : ByteArray) (r : Nat) : World :=
  (((((w.alloc (.cells #[.pointer (some ⟨t, 0, none⟩)] 55)).alloc (.cells #[.string state] 9)).alloc (.cells #[.int .i64 ((r : Int) + 1)] 3)).alloc (.cells #[.pointer none] 24)).alloc
    (.cells #[.func (.func 93) #[] #[.pointer (some ⟨w.heap.size, 0, none⟩)],
      .func (.func 95) #[] #[.pointer (some ⟨w.heap.size, 0, none⟩)],
      .func (.func 96) #[] #[.pointer (some ⟨w.heap.size, 0, none⟩), .pointer (some ⟨w.heap.size + 1, 0, none⟩)],
      .func (.func 97) #[] #[.pointer (some ⟨w.heap.size, 0, none⟩)],
      .func (.func 98) #[] #[.pointer (some ⟨w.heap.size, 0, none⟩), .pointer (some ⟨w.heap.size + 1 + 1, 0, none⟩)],
      .func (.func 99) #[] #[.pointer (some ⟨w.heap.size, 0, none⟩), .pointer (some ⟨w.heap.size + 1 + 1, 0, none⟩), .pointer (some ⟨w.heap.size + 1 + 1 + 1, 0, none⟩)],
      .func (.func 100) #[] #[.pointer (some ⟨w.heap.size, 0, none⟩)],
      .func (.func 101) #[] #[.pointer (some ⟨w.heap.size, 0, none⟩)]] 77))
theorem nextW_below (w : World) (t : Nat) (state : ByteArray) (r : Nat) : Below w.heap.size w (nextW w t state r) := below_alloc (below_alloc (below_alloc (below_alloc (below_alloc (Below.refl _ w) _) _) _) _) _

theorem nextW_at {t d m : Nat} {S : St} {lv : Value} {dir base state : ByteArray} {r : Nat} {br : Bool} {w : World} (hD : IsDisk w d m S) (h : StoreAt w t lv (.pointer (some ⟨d, 0, none⟩)) dir r base br) :
    NextAt (nextW w t state r) w d m t w.heap.size (w.heap.size + 1) (w.heap.size + 1 + 1) (w.heap.size + 1 + 1 + 1) (w.heap.size + 1 + 1 + 1 + 1) lv dir r (r + 1) base br state := by
  have hlt := hD.lt
  have htl := h.facts.2.2.2.2.2.2
  have hap := h.apart hD
  refine ⟨⟨?_, ?_, ?_, h.later (nextW_below w t state r), ⟨by omega, by omega, by omega⟩, ⟨by omega, by omega, by omega⟩, ⟨by omega, by omega, by omega⟩, ⟨hap.1, hap.2, by omega⟩⟩, fun k hk => ?_, ⟨⟨by omega, by omega, by omega⟩, ⟨by omega, by omega⟩, by omega⟩, Only.of_below (nextW_below w t state r)⟩
  · unfold nextW
    rw [World.cell?_alloc_past _ _ _ (by simp; omega), World.cell?_alloc_past _ _ _ (by simp; omega), World.cell?_alloc_past _ _ _ (by simp; omega), World.cell?_alloc_past _ _ _ (by simp), World.cell?_alloc_at _ _ _ _ rfl]; rfl
  · unfold nextW
    rw [World.cell?_alloc_past _ _ _ (by simp), World.cell?_alloc_past _ _ _ (by simp), World.cell?_alloc_past _ _ _ (by simp), World.cell?_alloc_at _ _ _ _ (by simp)]; rfl
  · unfold nextW
    rw [World.cell?_alloc_past _ _ _ (by simp), World.cell?_alloc_past _ _ _ (by simp), World.cell?_alloc_at _ _ _ _ (by simp)]; rfl
  · unfold nextW
    rw [World.cell?_alloc_at _ _ _ _ (by simp)]
    match k, hk with
    | 0, _ => rfl
    | 1, _ => rfl
    | 2, _ => rfl
    | 3, _ => rfl
    | 4, _ => rfl
    | 5, _ => rfl
    | 6, _ => rfl
    | 7, _ => rfl
theorem nextW_box (w : World) (t : Nat) (state : ByteArray) (r : Nat) : BoxAt (nextW w t state r) (w.heap.size + 1 + 1 + 1) 24 (.pointer none) := by
  unfold nextW BoxAt
  rw [Go.heap_alloc_old _ _ (by simp)]
  have := heap_alloc_new (((w.alloc (.cells #[.pointer (some ⟨t, 0, none⟩)] 55)).alloc (.cells #[.string state] 9)).alloc (.cells #[.int .i64 ((r : Int) + 1)] 3)) (.cells #[.pointer none] 24)
  simpa using this

def NextOut (o : Int × St × Option LSt) (d m : Nat) (w : World) (e : Ending) (w' : World) : Prop :=
  IsDisk w' d m o.2.1 ∧ Only d m w w' ∧ match o.2.2 with
    | none => o.1 ≠ 0 ∧ e = .returned (.tuple #[.pointer none, .int .i64 o.1])
    | some L => ∃ g rv, e = .returned (.tuple #[.pointer (some ⟨g, 0, none⟩), .int .i64 0]) ∧ w.heap.size ≤ g ∧ IsLog w' w.heap.size g d rv L

theorem next_enters (k : Nat) (hk : k < 8) : ∀ args W, (callFunc (nextFi k) args).run Tryz.prog W = .ok (.enter (nextFi k) args) W := by
  intro args W
  match k, hk with
  | 0, _ => exact enters_of Tryz.func93 (by kernel_rfl) rfl args W
  | 1, _ => exact enters_of Tryz.func95 (by kernel_rfl) rfl args W
  | 2, _ => exact enters_of Tryz.func96 (by kernel_rfl) rfl args W
  | 3, _ => exact enters_of Tryz.func97 (by kernel_rfl) rfl args W
  | 4, _ => exact enters_of Tryz.func98 (by kernel_rfl) rfl args W
  | 5, _ => exact enters_of Tryz.func99 (by kernel_rfl) rfl args W
  | 6, _ => exact enters_of Tryz.func100 (by kernel_rfl) rfl args W
  | 7, _ => exact enters_of Tryz.func101 (by kernel_rfl) rfl args W

set_option maxHeartbeats 4000000 in
set_option maxRecDepth 100000 in
theorem nextS_any {t d m : Nat} {S : St} {lv : Value} {dir base state : ByteArray} {r : Nat} {br : Bool} (w : World) (hO : S.Ok) (hD : IsDisk w d m S) (h : StoreAt w t lv (.pointer (some ⟨d, 0, none⟩)) dir r base br) (hf : NFit dir r (r + 1) state) :
    Calls Tryz.prog 62 #[.pointer (some ⟨t, 0, none⟩), .string state] w (NextOut (S.save dir r (r + 1) state) d m w) := by
  have c3 := h.facts.2.2.2.1
  have hlt := h.facts.2.2.2.2.2.2
  have hr := hf.r
  have HF := Lib.hid hf
  have HP0 := Lib.hid (show NextP S w d m t w.heap.size (w.heap.size + 1) (w.heap.size + 1 + 1) (w.heap.size + 1 + 1 + 1) (w.heap.size + 1 + 1 + 1 + 1) lv dir r (r + 1) base br state 0 (nextW w t state r) from
    ⟨nextW_at hD h, S, hD.later (nextW_below w t state r), hO, .inl ⟨by omega, nextW_box w t state r, rfl⟩⟩)
  clear h hf hO hD
  go_enter Tryz.func62, Tryz.ntmps62
  go_wp2
  go_loopw [26] (fun iv wr => ∃ k : Nat, k ≤ 8 ∧ iv = .int .i64 (k : Int) ∧ NextP S w d m t w.heap.size (w.heap.size + 1) (w.heap.size + 1 + 1) (w.heap.size + 1 + 1 + 1) (w.heap.size + 1 + 1 + 1 + 1) lv dir r (r + 1) base br state k wr) (fun iv _ => 8 - (intOf iv).toNat)
  case atStart => exact ⟨0, by omega, rfl, HP0.out⟩
  case round =>
    obtain ⟨k, hk, rfl, hP⟩ := hrel
    have HP := Lib.hid hP
    clear hP
    by_cases hlt8 : k < 8
    · have hc := HP.out.1.fns k hlt8
      have he := next_enters k hlt8
      have HST := Lib.hid (nextStep HF.out k hlt8 wr HP.out)
      have t8 : (k : Int) < 8 := by omega
      go_wp2_with fail
      refine HST.out.mono ?_
      rintro e w1 ⟨y, rfl, hx0, hx1⟩
      have HX0 := Lib.hid hx0
      have HX1 := Lib.hid hx1
      clear hx0 hx1 he hc HST
      by_cases hy : y = 0
      · have HP1 := Lib.hid (HX0.out hy)
        have t1 : (y != 0) = false := by rw [hy]; rfl
        clear hy
        go_wp2
        go_roundw
        case rel => exact ⟨k + 1, by omega, by go_num, HP1.out⟩
        case measure => simp [intOf]; omega
      · have HQ := Lib.hid (And.intro hy (HX1.out hy))
        have t1 : (y != 0) = true := by rw [bne_iff_ne]; exact hy
        clear hy
        go_wp2
        go_ret2
        obtain ⟨hat, T, hdt, hsv⟩ := HQ.out.2
        rw [hsv]
        exact ⟨hdt, hat.only, HQ.out.1, rfl⟩
    · obtain rfl : k = 8 := by omega
      obtain ⟨hat, T, hD, hT, ⟨hk5, -⟩ | ⟨-, L, g, rv, hb, hg, -, hl, -, h5, hL, he⟩⟩ := HP.out
      · omega
      have HAT := Lib.hid hat
      have HD := Lib.hid hD
      have HG := Lib.hid hg
      have HL := Lib.hid hl
      have cb := hb.cell
      have HE := Lib.hid (show S.save dir r (r + 1) state = (0, T, some L) by
        unfold St.save
        rw [if_pos h5, hL]
        simp only
        rw [he]
        rfl)
      clear hat hD hT hb hg hl h5 hL he HP
      go_wp2
      go_ret2
      rw [HE.out]
      exact ⟨HD.out, HAT.out.only, g, rv, rfl, HG.out, HL.out⟩

/-! ### Save -/
theorem StoreAt.save {w : World} {t : Nat} {lv dv : Value} {dir base : ByteArray} {r : Nat} {br : Bool} (h : StoreAt w t lv dv dir r base br) (v : Value) (n : Nat) (b : ByteArray) :
    StoreAt (((w.setCell ⟨t, 0, none⟩ v).setCell ⟨t, 3, none⟩ (.int .i64 (n : Int))).setCell ⟨t, 4, none⟩ (.string b)) t v dv dir n b br := ((h.setLog v).setRound n).setBase b

/-- Nothing of what was there has turned, but for the blocks d, m and t. -/
structure OnlyS (d m t : Nat) (w w' : World) : Prop where
  os : w'.os = w.os
  tape : w'.tape = w.tape
  output : w'.output = w.output
  size : w.heap.size ≤ w'.heap.size
  block : ∀ k, k < w.heap.size → k ≠ d → k ≠ m → k ≠ t → w'.heap[k]? = w.heap[k]?
theorem OnlyS.of {d m t : Nat} {w w1 w' : World} (h : Only d m w w1) (k : Only t t w1 w') : OnlyS d m t w w' :=
  ⟨k.os.trans h.os, k.tape.trans h.tape, k.output.trans h.output, Nat.le_trans h.size k.size, fun i hi h1 h2 h3 => (k.block i (Nat.lt_of_lt_of_le hi h.size) h3 h3).trans (h.block i hi h1 h2)⟩

def SaveOut (o : Int × St × Option LSt) (d m t g0 : Nat) (dir : ByteArray) (r : Nat) (base state : ByteArray) (w : World) (e : Ending) (w' : World) : Prop :=
  IsDisk w' d m o.2.1 ∧ OnlyS d m t w w' ∧ match o.2.2 with
    | none => o.1 ≠ 0 ∧ e = .returned (.int .i64 o.1) ∧ StoreAt w' t (.pointer (some ⟨g0, 0, none⟩)) (.pointer (some ⟨d, 0, none⟩)) dir r base true
    | some L => ∃ g rv, e = .returned (.int .i64 0) ∧ w.heap.size ≤ g ∧ StoreAt w' t (.pointer (some ⟨g, 0, none⟩)) (.pointer (some ⟨d, 0, none⟩)) dir (r + 1) state false ∧ IsLog w' w.heap.size g d rv L

/-! Save. -/

set_option maxHeartbeats 400000 in
set_option maxRecDepth 100000 in
theorem save_any {t d m g0 : Nat} {S : St} {dir base : ByteArray} {r : Nat} (w : World) (hO : S.Ok) (hD : IsDisk w d m S) (h : StoreAt w t (.pointer (some ⟨g0, 0, none⟩)) (.pointer (some ⟨d, 0, none⟩)) dir r base false) (hdir : dir.size ≤ 1000) (hr : r ≤ 100000) (state : ByteArray) (hs : state.size ≤ 150000) :
    Calls Tryz.prog 30 #[.pointer (some ⟨t, 0, none⟩), .string state] w (SaveOut (S.save dir r (r + 1) state) d m t g0 dir r base state w) := by
  have c5 := h.facts.2.2.2.2.2.1
  have HS := Lib.hid h
  have HAP := Lib.hid (h.apart hD)
  have HLT := Lib.hid h.facts.2.2.2.2.2.2
  have HN := Lib.hid (nextS_any (state := state) w hO hD h ⟨hdir, by omega, by omega, by omega⟩)
  have ts : decide ((150000 : Int) < state.size) = false := decide_eq_false (by omega)
  have HST := Lib.hid hs
  clear h hO hD hs hdir
  go_enter Tryz.func30, Tryz.ntmps30
  go_wp2_with fail
  refine (snone_any _ HS.out).mono ?_
  rintro e w1 ⟨rfl, rfl⟩
  go_wp2_with fail
  refine HN.out.mono ?_
  rintro e w1 ⟨hd1, ho1, hm⟩
  have HD1 := Lib.hid hd1
  have HO1 := Lib.hid ho1
  have HS1 := Lib.hid (HS.out.only ho1 HAP.out.1 HAP.out.2)
  clear hd1 ho1 HN
  cases hsl : (S.save dir r (r + 1) state).2.2 with
  | none =>
    rw [hsl] at hm
    obtain ⟨hy, rfl⟩ := hm
    have HEND := Lib.hid (fun (w' : World) (e : Ending) (h1 : IsDisk w' d m (S.save dir r (r + 1) state).2.1) (h2 : OnlyS d m t w w') (h3 : e = .returned (.int .i64 (S.save dir r (r + 1) state).1)) (h4 : StoreAt w' t (.pointer (some ⟨g0, 0, none⟩)) (.pointer (some ⟨d, 0, none⟩)) dir r base true) =>
      show SaveOut (S.save dir r (r + 1) state) d m t g0 dir r base state w e w' from by unfold SaveOut; rw [hsl]; exact ⟨h1, h2, hy, h3, h4⟩)
    have t1 : ((S.save dir r (r + 1) state).1 != 0) = true := by rw [bne_iff_ne]; exact hy
    have c5' := HS1.out.facts.2.2.2.2.2.1
    have f5 := HS1.out.free 5
    clear hy hsl
    go_wp2
    go_ret
    exact HEND.out _ _ (HD1.out.set_tt HAP.out.1 HAP.out.2) (OnlyS.of HO1.out ((Only.refl t t w1).setCell 5 _)) rfl (HS1.out.setBroken true)
  | some L =>
    rw [hsl] at hm
    obtain ⟨g, rv, rfl, hg, hl⟩ := hm
    have HG := Lib.hid hg
    have HL := Lib.hid hl
    have HEND := Lib.hid (fun (w' : World) (e : Ending) (h1 : IsDisk w' d m (S.save dir r (r + 1) state).2.1) (h2 : OnlyS d m t w w') (h3 : e = .returned (.int .i64 0)) (h4 : StoreAt w' t (.pointer (some ⟨g, 0, none⟩)) (.pointer (some ⟨d, 0, none⟩)) dir (r + 1) state false) (h5 : IsLog w' w.heap.size g d rv L) =>
      show SaveOut (S.save dir r (r + 1) state) d m t g0 dir r base state w e w' from by unfold SaveOut; rw [hsl]; exact ⟨h1, h2, g, rv, h3, hg, h4, h5⟩)
    clear hg hl hsl
    have c3 : w1.drew.cell? ⟨t, 3, none⟩ = some (.int .i64 (r : Int)) := HS1.out.facts.2.2.2.1
    have HSD := Lib.hid (show StoreAt w1.drew t (.pointer (some ⟨g0, 0, none⟩)) (.pointer (some ⟨d, 0, none⟩)) dir r base false from HS1.out)
    have hs9 : state.size ≤ 281474976710656 := by have := HST.out; omega
    have wr1 : IntKind.i64.wrap ((r : Int) + 1) = (r : Int) + 1 := IntWalk.i64_in _ (by omega)
    go_wp2_with fail
    go_region_law
      (refine step_clone (by rfl) (.tmp 40) #[9] (by rfl) state (by simp [Act.eval, Act.put]) hs9 ?_
       intro w2 hb2
       have HB2 := Lib.hid hb2
       have s2 := HSD.out.later hb2
       have c3' := s2.facts.2.2.2.1
       have c0' := s2.facts.1
       have f0 := s2.free 0
       have lt2 := s2.facts.2.2.2.2.2.2
       have f3 := s2.free 3
       have c4' := s2.facts.2.2.2.2.1
       have f4 := s2.free 4
       have S5 := Lib.hid (s2.save (.pointer (some ⟨g, 0, none⟩)) (r + 1) state)
       clear hb2 s2)
    all_goals
      go_wp2
      go_ret
      have hdd := HD1.out.later ((below_of_drew w1).trans HB2.out)
      have hlt : t < w2.heap.size := by have := HB2.out.size; have := HSD.out.facts.2.2.2.2.2.2; omega
      have hw2 : w.heap.size ≤ w2.heap.size := by have := HB2.out.size; have := HO1.out.size; exact Nat.le_trans this HB2.out.size
      have ho2 : Only d m w w2 := HO1.out.trans (Only.of_below ((below_of_drew w1).trans HB2.out))
      have hgt : g ≠ t := by have := HG.out; have := HLT.out; omega
      refine HEND.out _ _ (((hdd.set_tt HAP.out.1 HAP.out.2).set_tt HAP.out.1 HAP.out.2).set_tt HAP.out.1 HAP.out.2) (OnlyS.of ho2 ((((Only.refl t t w2).setCell 0 _).setCell 3 _).setCell 4 _)) rfl S5.out ?_
      exact (((HL.out.later ((below_of_drew w1).trans HB2.out)).set HLT.out hgt).set HLT.out hgt).set HLT.out hgt

set_option maxHeartbeats 1000000 in
theorem save_long {t g0 : Nat} {dv : Value} {dir base : ByteArray} {r : Nat} (w : World) (h : StoreAt w t (.pointer (some ⟨g0, 0, none⟩)) dv dir r base false) (state : ByteArray) (hs : 150000 < state.size) (hs2 : state.size ≤ 1000000) :
    Calls Tryz.prog 30 #[.pointer (some ⟨t, 0, none⟩), .string state] w fun e w' => e = .returned (.int .i64 2) ∧ w = w' := by
  have c5 := h.facts.2.2.2.2.2.1
  have HS := Lib.hid h
  have ts : decide ((150000 : Int) < state.size) = true := decide_eq_true (by omega)
  clear h hs
  go_enter Tryz.func30, Tryz.ntmps30
  go_wp2_with fail
  refine (snone_any _ HS.out).mono ?_
  rintro e w1 ⟨rfl, rfl⟩
  go_wp2
  go_ret
  exact ⟨rfl, rfl⟩

set_option maxHeartbeats 1000000 in
theorem scommit_any {t g : Nat} {dv v : Value} {dir base : ByteArray} {r : Nat} {Q : Int → World → Prop} (w : World) (h : StoreAt w t (.pointer (some ⟨g, 0, none⟩)) dv dir r base false) (hc : Calls Tryz.prog 13 #[.pointer (some ⟨g, 0, none⟩), v] w fun e w' => ∃ x : Int, e = .returned (.int .i64 x) ∧ Q x w') :
    Calls Tryz.prog 32 #[.pointer (some ⟨t, 0, none⟩), v] w fun e w' => ∃ x : Int, e = .returned (.int .i64 x) ∧ Q x w' := by
  have c5 := h.facts.2.2.2.2.2.1
  have c0 := h.facts.1
  have HS := Lib.hid h
  have HC := Lib.hid hc
  clear h hc
  go_enter Tryz.func32, Tryz.ntmps32
  go_wp2_with fail
  refine (snone_any _ HS.out).mono ?_
  rintro e w1 ⟨rfl, rfl⟩
  go_wp2_with fail
  refine HC.out.mono ?_
  rintro e w1 ⟨x, rfl, hq⟩
  have HQ := Lib.hid hq
  clear hq
  go_wp2
  go_ret
  exact ⟨x, rfl, HQ.out⟩

set_option maxHeartbeats 1000000 in
theorem sbase_any {t g : Nat} {dv : Value} {dir base : ByteArray} {r : Nat} {br : Bool} (w : World) (h : StoreAt w t (.pointer (some ⟨g, 0, none⟩)) dv dir r base br) :
    Calls Tryz.prog 28 #[.pointer (some ⟨t, 0, none⟩)] w fun e w' => e = .returned (.tuple #[.string (if r = 0 then ⟨#[]⟩ else base), .bool (!decide (r = 0))]) ∧ w = w' := by
  have c3 := h.facts.2.2.2.1
  have c4 := h.facts.2.2.2.2.1
  have HS := Lib.hid h
  clear h
  by_cases h0 : r = 0
  · subst h0
    go_enter Tryz.func28, Tryz.ntmps28
    go_wp2_with fail
    refine (snone_any _ HS.out).mono ?_
    rintro e w1 ⟨rfl, rfl⟩
    go_wp2
    go_ret2
    exact ⟨rfl, rfl⟩
  · have t1 : ((r : Int) == 0) = false := by rw [beq_eq_false_iff_ne]; omega
    rw [if_neg h0, decide_eq_false h0]
    go_enter Tryz.func28, Tryz.ntmps28
    go_wp2_with fail
    refine (snone_any _ HS.out).mono ?_
    rintro e w1 ⟨rfl, rfl⟩
    go_wp2
    go_ret2
    exact ⟨rfl, rfl⟩
set_option maxHeartbeats 1000000 in
theorem sround_any {t g : Nat} {dv : Value} {dir base : ByteArray} {r : Nat} {br : Bool} (w : World) (h : StoreAt w t (.pointer (some ⟨g, 0, none⟩)) dv dir r base br) :
    Calls Tryz.prog 31 #[.pointer (some ⟨t, 0, none⟩)] w fun e w' => e = .returned (.int .i64 (r : Int)) ∧ w = w' := by
  have c3 := h.facts.2.2.2.1
  have HS := Lib.hid h
  clear h
  go_enter Tryz.func31, Tryz.ntmps31
  go_wp2_with fail
  refine (snone_any _ HS.out).mono ?_
  rintro e w1 ⟨rfl, rfl⟩
  go_wp2
  go_ret
  exact ⟨rfl, rfl⟩

end Go.Proofs.YtncpeaamfmfcgaaGreat
