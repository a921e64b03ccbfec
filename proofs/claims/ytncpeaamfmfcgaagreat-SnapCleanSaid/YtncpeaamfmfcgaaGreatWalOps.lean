/- The log's small functions; the closures of its steps. -/
import Derived.Test.YtncpeaamfmfcgaaGreatWalGood
import Derived.Test.YtncpeaamfmfcgaaGreatWalFirst
import Derived.Test.YtncpeaamfmfcgaaGreatDiskHolds
import Derived.Deep.RegionHeld3
namespace Go.Proofs.YtncpeaamfmfcgaaGreat
open Go.RowKit Go.Proofs.YtncpeaamfmfcgaaGreat.Sum

/-- A step's variables: the log (in the box p) and a text (in the box q). -/
structure Cap (w : World) (d m p g q : Nat) (t name : ByteArray) (rv : Value) (n z : Nat) (br : Bool) : Prop where
  lp : w.cell? ⟨p, 0, none⟩ = some (.pointer (some ⟨g, 0, none⟩))
  tq : w.cell? ⟨q, 0, none⟩ = some (.string t)
  log : LogAt w g (.pointer (some ⟨d, 0, none⟩)) name rv n z br
  pd : p ≠ d
  pm : p ≠ m
  qd : q ≠ d
  qm : q ≠ m
  gd : g ≠ d
  gm : g ≠ m
section
variable {w W : World} {d m p g q : Nat} {t name : ByteArray} {rv : Value} {n z : Nat} {br : Bool}
theorem LogAt.only {dv : Value} (h : LogAt w g dv name rv n z br) (ho : Only d m w W) (hd : g ≠ d) (hm : g ≠ m) : LogAt W g dv name rv n z br :=
  (ho.block g h.facts.2.2.2.2.2.2.2 hd hm).trans h
theorem LogAt.later {dv : Value} (h : LogAt w g dv name rv n z br) (hb : Below w.heap.size w W) : LogAt W g dv name rv n z br :=
  (hb.block g h.facts.2.2.2.2.2.2.2).trans h
theorem LogAt.apart {dv : Value} {S : St} (h : LogAt w g dv name rv n z br) (hd : IsDisk w d m S) : g ≠ d ∧ g ≠ m := by
  have h' : w.heap[g]? = _ := h
  refine ⟨?_, ?_⟩
  · rintro rfl
    rw [hd.cells] at h'
    injection h' with h'
    injection h' with _ h2 _
    exact absurd h2 (by decide)
  · rintro rfl
    rw [hd.map] at h'
    injection h' with h'
    cases h'
theorem Cap.only (h : Cap w d m p g q t name rv n z br) (ho : Only d m w W) : Cap W d m p g q t name rv n z br :=
  ⟨only_cell ho h.lp h.pd h.pm, only_cell ho h.tq h.qd h.qm, h.log.only ho h.gd h.gm, h.pd, h.pm, h.qd, h.qm, h.gd, h.gm⟩
theorem only_drew (d m : Nat) (w : World) : Only d m w w.drew := ⟨rfl, rfl, rfl, Nat.le_refl _, fun _ _ _ _ => rfl⟩
theorem IsDisk.drew {S : St} (h : IsDisk w d m S) : IsDisk w.drew d m S := ⟨h.cells, h.map⟩
/-- The cells that a step reads. -/
def CapCells (w : World) (d p g q : Nat) (t name : ByteArray) (z : Nat) : Prop :=
  w.cell? ⟨p, 0, none⟩ = some (.pointer (some ⟨g, 0, none⟩)) ∧ w.cell? ⟨q, 0, none⟩ = some (.string t) ∧ w.cell? ⟨g, 0, none⟩ = some (.pointer (some ⟨d, 0, none⟩)) ∧ w.cell? ⟨g, 1, none⟩ = some (.string name) ∧ w.cell? ⟨g, 4, none⟩ = some (.int .i64 (z : Int))
theorem Cap.cells (h : Cap w d m p g q t name rv n z br) : CapCells w d p g q t name z :=
  ⟨h.lp, h.tq, h.log.facts.1, h.log.facts.2.1, h.log.facts.2.2.2.2.1⟩
end

/-- A file is removed, if it is there. -/
def St.rmIf (S : St) (s : ByteArray) : Int × St := if has S.files s then S.remove s else (0, S)
theorem St.Ok.rmIf {S : St} (h : S.Ok) (s : ByteArray) : (S.rmIf s).2.Ok := by
  unfold St.rmIf; split
  · exact h.remove s
  · exact h

theorem containsS_names (l : List FE) (s : ByteArray) : Lib.containsS (namesOf l) s = has l s := by
  rw [Bool.eq_iff_iff, ← mem_namesOf]
  exact Lib.containsS_iff _ _

set_option maxHeartbeats 1000000 in
theorem contains_any (v : Value) (l : List ByteArray) (s : ByteArray) (w : World) (hv : Strs w v l) (hl : l.length ≤ 1000000) :
    Calls Tryz.prog 110 #[v, .string s] w fun e w' => e = .returned (.bool (Lib.containsS l s)) ∧ w = w' := by
  rcases hv.cases with ⟨rfl, a, c, rfl, -⟩ | ⟨b, off, cap, rfl, -, -, hc⟩
  · refine (Tryz.slices_Contains_string_empty a c s w).mono ?_
    rintro e w' ⟨rfl, rfl⟩
    refine ⟨?_, rfl⟩
    rw [show Lib.containsS [] s = false by rw [Bool.eq_false_iff]; intro h; exact absurd ((Lib.containsS_iff _ _).1 h) (by simp)]
  · refine (Tryz.slices_Contains_string b off l.length cap l s w (Nat.le_refl _) (by omega) (fun j hj => by rw [hc j hj, List.getD_eq_getElem?_getD, List.getElem?_eq_getElem hj]; rfl)).mono ?_
    rintro e w' ⟨rfl, rfl⟩
    rw [List.take_length]
    exact ⟨rfl, rfl⟩

set_option maxHeartbeats 2000000 in
theorem walRemove_any {d m : Nat} {S : St} {w : World} (hO : S.Ok) (s : ByteArray) (h : IsDisk w d m S) :
    Calls Tryz.prog 72 #[.pointer (some ⟨d, 0, none⟩), .string s] w fun e w' => e = .returned (.int .i64 (S.rmIf s).1) ∧ IsDisk w' d m (S.rmIf s).2 ∧ Only d m w w' := by
  have HO := Lib.hid hO
  have HD := Lib.hid h
  clear hO h
  go_enter Tryz.func72, Tryz.ntmps72
  go_wp2_with fail
  refine (files_ok HO.out HD.out).mono ?_
  rintro e w1 ⟨v, rfl, hv, hb1⟩
  have HV := Lib.hid hv
  have HB1 := Lib.hid hb1
  clear hv hb1
  go_wp2_with fail
  refine (contains_any v (namesOf S.files) s _ HV.out (by rw [namesOf_length]; have := HO.out.few; omega)).mono ?_
  rintro e w2 ⟨rfl, rfl⟩
  rw [containsS_names]
  cases hh : has S.files s
  · have HE := Lib.hid (show S.rmIf s = (0, S) by unfold St.rmIf; rw [hh]; rfl)
    clear hh
    go_wp2
    go_ret
    rw [HE.out]
    exact ⟨rfl, HD.out.later HB1.out, Only.of_below HB1.out⟩
  · have HE := Lib.hid (show S.rmIf s = S.remove s by unfold St.rmIf; rw [hh]; rfl)
    clear hh
    go_wp2_with fail
    refine (remove_ok HO.out s (HD.out.later HB1.out)).mono ?_
    rintro e w3 ⟨rfl, hd3, ho3⟩
    go_wp2
    go_ret
    rw [HE.out]
    exact ⟨rfl, hd3, (Only.of_below HB1.out).trans ho3⟩

set_option maxHeartbeats 2000000 in
theorem mend1_any {d m p g q : Nat} {t name : ByteArray} {rv : Value} {n z : Nat} {br : Bool} {S : St} {w : World} (hO : S.Ok) (h : IsDisk w d m S) (hc : Cap w d m p g q t name rv n z br) :
    Calls Tryz.prog 71 #[.pointer (some ⟨p, 0, none⟩), .pointer (some ⟨q, 0, none⟩)] w fun e w' => e = .returned (.int .i64 (S.rmIf t).1) ∧ IsDisk w' d m (S.rmIf t).2 ∧ Only d m w w' := by
  have K0 := Lib.hid (hc.only (only_drew d m w)).cells
  have KK := Lib.hid (fun (W : World) (ho : Only d m w.drew W) => (hc.only ((only_drew d m w).trans ho)).cells)
  have HD := Lib.hid h.drew
  have HO := Lib.hid hO
  clear hc h hO
  go_enter Tryz.func71, Tryz.ntmps71
  go_wp2_with fail
  go_region_held3 (fun w' => w'.cell? ⟨p, 0, none⟩ = some (.pointer (some ⟨g, 0, none⟩)) ∧ w'.cell? ⟨q, 0, none⟩ = some (.string t) ∧ w'.cell? ⟨g, 0, none⟩ = some (.pointer (some ⟨d, 0, none⟩)) ∧ w'.cell? ⟨g, 1, none⟩ = some (.string name) ∧ w'.cell? ⟨g, 4, none⟩ = some (.int .i64 (z : Int))) (first | exact K0.out | exact KK.out _ (by assumption)) (first | (go_at_call 72; refine (walRemove_any HO.out t HD.out).mono ?_; rintro e w1 ⟨rfl, hd1, ho1⟩))
  go_wp2
  go_ret
  exact ⟨rfl, hd1, (only_drew d m w).trans ho1⟩

set_option maxHeartbeats 2000000 in
theorem mend2_any {d m p g q : Nat} {t name : ByteArray} {rv : Value} {n z : Nat} {br : Bool} {S : St} {w : World} (hO : S.Ok) (h : IsDisk w d m S) (hc : Cap w d m p g q t name rv n z br) (ht : t.size ≤ 281474976710656) :
    Calls Tryz.prog 73 #[.pointer (some ⟨p, 0, none⟩), .pointer (some ⟨q, 0, none⟩)] w fun e w' => e = .returned (.int .i64 (S.create t).1) ∧ IsDisk w' d m (S.create t).2 ∧ Only d m w w' := by
  have K0 := Lib.hid (hc.only (only_drew d m w)).cells
  have KK := Lib.hid (fun (W : World) (ho : Only d m w.drew W) => (hc.only ((only_drew d m w).trans ho)).cells)
  have HD := Lib.hid h.drew
  have HO := Lib.hid hO
  clear hc h hO
  go_enter Tryz.func73, Tryz.ntmps73
  go_wp2_with fail
  go_region_held3 (fun w' => w'.cell? ⟨p, 0, none⟩ = some (.pointer (some ⟨g, 0, none⟩)) ∧ w'.cell? ⟨q, 0, none⟩ = some (.string t) ∧ w'.cell? ⟨g, 0, none⟩ = some (.pointer (some ⟨d, 0, none⟩)) ∧ w'.cell? ⟨g, 1, none⟩ = some (.string name) ∧ w'.cell? ⟨g, 4, none⟩ = some (.int .i64 (z : Int))) (first | exact K0.out | exact KK.out _ (by assumption)) (first | (go_at_call 37; refine (create_ok HO.out t ht HD.out).mono ?_; rintro e w1 ⟨rfl, hd1, ho1⟩))
  go_wp2
  go_ret
  exact ⟨rfl, hd1, (only_drew d m w).trans ho1⟩

set_option maxHeartbeats 2000000 in
theorem mend4_any {d m p g q : Nat} {t name : ByteArray} {rv : Value} {n z : Nat} {br : Bool} {S : St} {w : World} (hO : S.Ok) (h : IsDisk w d m S) (hc : Cap w d m p g q t name rv n z br) :
    Calls Tryz.prog 75 #[.pointer (some ⟨p, 0, none⟩), .pointer (some ⟨q, 0, none⟩)] w fun e w' => e = .returned (.int .i64 (S.sync t).1) ∧ IsDisk w' d m (S.sync t).2 ∧ Only d m w w' := by
  have K0 := Lib.hid (hc.only (only_drew d m w)).cells
  have KK := Lib.hid (fun (W : World) (ho : Only d m w.drew W) => (hc.only ((only_drew d m w).trans ho)).cells)
  have HD := Lib.hid h.drew
  have HO := Lib.hid hO
  clear hc h hO
  go_enter Tryz.func75, Tryz.ntmps75
  go_wp2_with fail
  go_region_held3 (fun w' => w'.cell? ⟨p, 0, none⟩ = some (.pointer (some ⟨g, 0, none⟩)) ∧ w'.cell? ⟨q, 0, none⟩ = some (.string t) ∧ w'.cell? ⟨g, 0, none⟩ = some (.pointer (some ⟨d, 0, none⟩)) ∧ w'.cell? ⟨g, 1, none⟩ = some (.string name) ∧ w'.cell? ⟨g, 4, none⟩ = some (.int .i64 (z : Int))) (first | exact K0.out | exact KK.out _ (by assumption)) (first | (go_at_call 47; refine (sync_ok HO.out t HD.out).mono ?_; rintro e w1 ⟨rfl, hd1, ho1⟩))
  go_wp2
  go_ret
  exact ⟨rfl, hd1, (only_drew d m w).trans ho1⟩

set_option maxHeartbeats 2000000 in
theorem mend5_any {d m p g q : Nat} {t name : ByteArray} {rv : Value} {n z : Nat} {br : Bool} {S : St} {w : World} (hO : S.Ok) (h : IsDisk w d m S) (hc : Cap w d m p g q t name rv n z br) (ht : name.size ≤ 281474976710656) :
    Calls Tryz.prog 76 #[.pointer (some ⟨p, 0, none⟩), .pointer (some ⟨q, 0, none⟩)] w fun e w' => e = .returned (.int .i64 (S.rename t name).1) ∧ IsDisk w' d m (S.rename t name).2 ∧ Only d m w w' := by
  have K0 := Lib.hid (hc.only (only_drew d m w)).cells
  have KK := Lib.hid (fun (W : World) (ho : Only d m w.drew W) => (hc.only ((only_drew d m w).trans ho)).cells)
  have HD := Lib.hid h.drew
  have HO := Lib.hid hO
  clear hc h hO
  go_enter Tryz.func76, Tryz.ntmps76
  go_wp2_with fail
  go_region_held3 (fun w' => w'.cell? ⟨p, 0, none⟩ = some (.pointer (some ⟨g, 0, none⟩)) ∧ w'.cell? ⟨q, 0, none⟩ = some (.string t) ∧ w'.cell? ⟨g, 0, none⟩ = some (.pointer (some ⟨d, 0, none⟩)) ∧ w'.cell? ⟨g, 1, none⟩ = some (.string name) ∧ w'.cell? ⟨g, 4, none⟩ = some (.int .i64 (z : Int))) (first | exact K0.out | exact KK.out _ (by assumption)) (first | (go_at_call 77; refine (rename_okay HO.out t name ht HD.out).mono ?_; rintro e w1 ⟨rfl, hd1, ho1⟩))
  go_wp2
  go_ret
  exact ⟨rfl, hd1, (only_drew d m w).trans ho1⟩

set_option maxHeartbeats 2000000 in
theorem commit2_any {d m p g q : Nat} {t name : ByteArray} {rv : Value} {n z : Nat} {br : Bool} {S : St} {w : World} (hO : S.Ok) (h : IsDisk w d m S) (hc : Cap w d m p g q t name rv n z br) (ht : t.size ≤ 4611686018427387904) :
    Calls Tryz.prog 45 #[.pointer (some ⟨p, 0, none⟩), .pointer (some ⟨q, 0, none⟩)] w fun e w' => e = .returned (.int .i64 (S.append name t).1) ∧ IsDisk w' d m (S.append name t).2 ∧ Only d m w w' := by
  have K0 := Lib.hid (hc.only (only_drew d m w)).cells
  have KK := Lib.hid (fun (W : World) (ho : Only d m w.drew W) => (hc.only ((only_drew d m w).trans ho)).cells)
  have HD := Lib.hid h.drew
  have HO := Lib.hid hO
  clear hc h hO
  go_enter Tryz.func45, Tryz.ntmps45
  go_wp2_with fail
  go_region_held3 (fun w' => w'.cell? ⟨p, 0, none⟩ = some (.pointer (some ⟨g, 0, none⟩)) ∧ w'.cell? ⟨q, 0, none⟩ = some (.string t) ∧ w'.cell? ⟨g, 0, none⟩ = some (.pointer (some ⟨d, 0, none⟩)) ∧ w'.cell? ⟨g, 1, none⟩ = some (.string name) ∧ w'.cell? ⟨g, 4, none⟩ = some (.int .i64 (z : Int))) (first | exact K0.out | exact KK.out _ (by assumption)) (first | (go_at_call 19; refine (append_ok HO.out name t ht HD.out).mono ?_; rintro e w1 ⟨rfl, hd1, ho1⟩))
  go_wp2
  go_ret
  exact ⟨rfl, hd1, (only_drew d m w).trans ho1⟩

set_option maxHeartbeats 2000000 in
theorem commit3_any {d m p g q : Nat} {t name : ByteArray} {rv : Value} {n z : Nat} {br : Bool} {S : St} {w : World} (hO : S.Ok) (h : IsDisk w d m S) (hc : Cap w d m p g q t name rv n z br) :
    Calls Tryz.prog 46 #[.pointer (some ⟨p, 0, none⟩)] w fun e w' => e = .returned (.int .i64 (S.sync name).1) ∧ IsDisk w' d m (S.sync name).2 ∧ Only d m w w' := by
  have K0 := Lib.hid (hc.only (only_drew d m w)).cells
  have KK := Lib.hid (fun (W : World) (ho : Only d m w.drew W) => (hc.only ((only_drew d m w).trans ho)).cells)
  have HD := Lib.hid h.drew
  have HO := Lib.hid hO
  clear hc h hO
  go_enter Tryz.func46, Tryz.ntmps46
  go_wp2_with fail
  go_region_held3 (fun w' => w'.cell? ⟨p, 0, none⟩ = some (.pointer (some ⟨g, 0, none⟩)) ∧ w'.cell? ⟨q, 0, none⟩ = some (.string t) ∧ w'.cell? ⟨g, 0, none⟩ = some (.pointer (some ⟨d, 0, none⟩)) ∧ w'.cell? ⟨g, 1, none⟩ = some (.string name) ∧ w'.cell? ⟨g, 4, none⟩ = some (.int .i64 (z : Int))) (first | exact K0.out | exact KK.out _ (by assumption)) (first | (go_at_call 47; refine (sync_ok HO.out name HD.out).mono ?_; rintro e w1 ⟨rfl, hd1, ho1⟩))
  go_wp2
  go_ret
  exact ⟨rfl, hd1, (only_drew d m w).trans ho1⟩

end Go.Proofs.YtncpeaamfmfcgaaGreat
