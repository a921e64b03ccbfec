/- wal.first over steps that each do something to a disk. -/
import Derived.Test.YtncpeaamfmfcgaaGreatWalOps
namespace Go.Proofs.YtncpeaamfmfcgaaGreat
open Go.RowKit Go.Proofs.YtncpeaamfmfcgaaGreat.Sum

/-- Steps on a disk's state, up to the first one that fails. -/
def runSteps : List (St → Int × St) → St → Int × St
  | [], S => (0, S)
  | f :: fs, S => if (f S).1 = 0 then runSteps fs (f S).2 else f S

theorem runSteps_ok {fs : List (St → Int × St)} (hk : ∀ f ∈ fs, ∀ T : St, T.Ok → (f T).2.Ok) : ∀ {S : St}, S.Ok → (runSteps fs S).2.Ok := by
  induction fs with
  | nil => intro S h; exact h
  | cons f fs ih =>
    intro S h
    unfold runSteps
    split
    · exact ih (fun g hg => hk g (by simp [hg])) (hk f (by simp) S h)
    · exact hk f (by simp) S h

/-- Behind k steps that went well. -/
def Mid (d m : Nat) (fs : List (St → Int × St)) (S : St) (w0 : World) (k : Nat) (W : World) : Prop :=
  ∃ T : St, IsDisk W d m T ∧ T.Ok ∧ Only d m w0 W ∧ runSteps fs S = runSteps (fs.drop k) T
/-- Behind a step that did not. -/
def Bad (d m : Nat) (fs : List (St → Int × St)) (S : St) (w0 : World) (x : Int) (W : World) : Prop :=
  ∃ T : St, IsDisk W d m T ∧ Only d m w0 W ∧ runSteps fs S = (x, T)

theorem steps_any {d m b : Nat} {S : St} {w : World} (fs : List (St → Int × St)) (fi : Nat → Nat) (caps : Nat → Array Value) (hO : S.Ok) (hD : IsDisk w d m S) (hk : ∀ f ∈ fs, ∀ T : St, T.Ok → (f T).2.Ok) (hn : fs.length ≤ 100) (hbd : b ≠ d) (hbm : b ≠ m)
    (hcell : ∀ k, k < fs.length → w.cell? ⟨b, k, none⟩ = some (.func (.func (fi k)) #[] (caps k)))
    (hent : ∀ k, k < fs.length → ∀ args W, (callFunc (fi k) args).run Tryz.prog W = .ok (.enter (fi k) args) W)
    (hstep : ∀ k (hk : k < fs.length) W T, IsDisk W d m T → T.Ok → Only d m w W → Calls Tryz.prog (fi k) (caps k) W fun e w' => e = .returned (.int .i64 (fs[k] T).1) ∧ IsDisk w' d m (fs[k] T).2 ∧ Only d m W w') :
    Calls Tryz.prog 44 #[.slice (some ⟨b, 0, none⟩) fs.length fs.length] w fun e w' => e = .returned (.int .i64 (runSteps fs S).1) ∧ IsDisk w' d m (runSteps fs S).2 ∧ Only d m w w' := by
  refine (first_any b fs.length fi caps (Mid d m fs S w) (Bad d m fs S w) w ⟨S, hD, hO, Only.refl _ _ _, rfl⟩ (fun k hlt W hP => ?_) hent (fun k hlt W hP => ?_) hn).mono ?_
  · obtain ⟨T, -, -, ho, -⟩ := hP
    exact only_cell ho (hcell k hlt) hbd hbm
  · obtain ⟨T, hT, hTO, ho, he⟩ := hP
    refine (hstep k hlt W T hT hTO ho).mono ?_
    rintro e w' ⟨rfl, hd', ho'⟩
    have hdrop : fs.drop k = fs[k] :: fs.drop (k + 1) := List.drop_eq_getElem_cons hlt
    refine ⟨_, rfl, fun h0 => ⟨_, hd', hk _ (List.getElem_mem hlt) T hTO, ho.trans ho', ?_⟩, fun h0 => ⟨_, hd', ho.trans ho', ?_⟩⟩
    · rw [he, hdrop]; show (if _ then _ else _) = _; rw [if_pos h0]
    · rw [he, hdrop]; show (if _ then _ else _) = _; rw [if_neg h0]
  · rintro e w' (⟨rfl, T, hT, -, ho, he⟩ | ⟨x, hx, rfl, T, hT, ho, he⟩)
    · rw [he, List.drop_length]; exact ⟨rfl, hT, ho⟩
    · rw [he]; exact ⟨rfl, hT, ho⟩

/-! ### mend -/
def spareOf (name : ByteArray) : ByteArray := name ++ ⟨#[126]⟩
/-- The good part of a file alone is left. -/
def St.mend (S : St) (name part : ByteArray) : Int × St :=
  runSteps [fun T => T.rmIf (spareOf name), fun T => T.create (spareOf name), fun T => T.append (spareOf name) part, fun T => T.sync (spareOf name), fun T => T.rename (spareOf name) name] S

set_option maxHeartbeats 2000000 in
theorem mend3_any {d m p g q r : Nat} {t name b : ByteArray} {rv : Value} {n z : Nat} {br : Bool} {S : St} {w : World} (hO : S.Ok) (h : IsDisk w d m S) (hc : Cap w d m p g q t name rv n z br) (hr : w.cell? ⟨r, 0, none⟩ = some (.string b)) (hrd : r ≠ d) (hrm : r ≠ m) (hz : z ≤ b.size) (hb : b.size ≤ 1000000) :
    Calls Tryz.prog 74 #[.pointer (some ⟨p, 0, none⟩), .pointer (some ⟨q, 0, none⟩), .pointer (some ⟨r, 0, none⟩)] w fun e w' => e = .returned (.int .i64 (S.append t (b.extract 0 z)).1) ∧ IsDisk w' d m (S.append t (b.extract 0 z)).2 ∧ Only d m w w' := by
  have hr0 : w.drew.cell? ⟨r, 0, none⟩ = some (.string b) := hr
  have K0 := Lib.hid (And.intro (hc.only (only_drew d m w)).cells hr0)
  have KK := Lib.hid (fun (W : World) (ho : Only d m w.drew W) => And.intro (hc.only ((only_drew d m w).trans ho)).cells (only_cell ho hr0 hrd hrm))
  have HD := Lib.hid h.drew
  have HO := Lib.hid hO
  have hz0 : (0 : Int) ≤ z := by omega
  have hz1 : (z : Int) ≤ b.size := by omega
  have HX := Lib.hid (show (b.extract 0 z).size ≤ 4611686018427387904 by rw [ByteArray.size_extract]; omega)
  clear hc h hO hr hr0 hz
  go_enter Tryz.func74, Tryz.ntmps74
  go_wp2_with fail
  go_region_held3 (fun w' => (w'.cell? ⟨p, 0, none⟩ = some (.pointer (some ⟨g, 0, none⟩)) ∧ w'.cell? ⟨q, 0, none⟩ = some (.string t) ∧ w'.cell? ⟨g, 0, none⟩ = some (.pointer (some ⟨d, 0, none⟩)) ∧ w'.cell? ⟨g, 1, none⟩ = some (.string name) ∧ w'.cell? ⟨g, 4, none⟩ = some (.int .i64 (z : Int))) ∧ w'.cell? ⟨r, 0, none⟩ = some (.string b)) (first | exact K0.out | exact KK.out _ (by assumption)) (first | (go_at_call 19; refine (append_ok HO.out t (b.extract 0 z) HX.out HD.out).mono ?_; rintro e w1 ⟨rfl, hd1, ho1⟩))
  go_wp2
  go_ret
  exact ⟨rfl, hd1, (only_drew d m w).trans ho1⟩

def mendFi (k : Nat) : Nat := match k with
  | 0 => 71
  | 1 => 73
  | 2 => 74
  | 3 => 75
  | _ => 76
def mendCaps (p q r : Nat) (k : Nat) : Array Value := match k with
  | 2 => #[.pointer (some ⟨p, 0, none⟩), .pointer (some ⟨q, 0, none⟩), .pointer (some ⟨r, 0, none⟩)]
  | _ => #[.pointer (some ⟨p, 0, none⟩), .pointer (some ⟨q, 0, none⟩)]
/-- The world in which mend's steps are done. -/
def mendW (w : World) (g : Nat) (b t : ByteArray) : World :=
  (((w.alloc (.cells #[.pointer (some ⟨g, 0, none⟩)] 24)).alloc (.cells #[.string b] 9)).alloc (.cells #[.string t] 9)).alloc
    (.cells #[.func (.func 71) #[] #[.pointer (some ⟨w.heap.size, 0, none⟩), .pointer (some ⟨w.heap.size + 1 + 1, 0, none⟩)],
      .func (.func 73) #[] #[.pointer (some ⟨w.heap.size, 0, none⟩), .pointer (some ⟨w.heap.size + 1 + 1, 0, none⟩)],
      .func (.func 74) #[] #[.pointer (some ⟨w.heap.size, 0, none⟩), .pointer (some ⟨w.heap.size + 1 + 1, 0, none⟩), .pointer (some ⟨w.heap.size + 1, 0, none⟩)],
      .func (.func 75) #[] #[.pointer (some ⟨w.heap.size, 0, none⟩), .pointer (some ⟨w.heap.size + 1 + 1, 0, none⟩)],
      .func (.func 76) #[] #[.pointer (some ⟨w.heap.size, 0, none⟩), .pointer (some ⟨w.heap.size + 1 + 1, 0, none⟩)]] 77)
theorem mendW_below (w : World) (g : Nat) (b t : ByteArray) : Below w.heap.size w (mendW w g b t) := below_alloc (below_alloc (below_alloc (below_alloc (Below.refl _ w) _) _) _) _

theorem mend_first {d m g : Nat} {name b : ByteArray} {rv : Value} {n z : Nat} {br : Bool} {S : St} {w : World} (hO : S.Ok) (h : IsDisk w d m S) (hL : LogAt w g (.pointer (some ⟨d, 0, none⟩)) name rv n z br) (hz : z ≤ b.size) (hb : b.size ≤ 1000000) (hn : name.size ≤ 1000000) :
    Calls Tryz.prog 44 #[.slice (some ⟨w.heap.size + 1 + 1 + 1, 0, none⟩) 5 5] (mendW w g b (spareOf name)) fun e w' => e = .returned (.int .i64 (S.mend name (b.extract 0 z)).1) ∧ IsDisk w' d m (S.mend name (b.extract 0 z)).2 ∧ Only d m w w' := by
  have hlt := h.lt
  have hap := hL.apart h
  have hbl := mendW_below w g b (spareOf name)
  have hsp : (spareOf name).size ≤ 281474976710656 := by unfold spareOf; rw [ByteArray.size_append]; show _ + 1 ≤ _; omega
  have c0 : (mendW w g b (spareOf name)).cell? ⟨w.heap.size, 0, none⟩ = some (.pointer (some ⟨g, 0, none⟩)) := by
    unfold mendW
    rw [World.cell?_alloc_past _ _ _ (by simp; omega), World.cell?_alloc_past _ _ _ (by simp; omega), World.cell?_alloc_past _ _ _ (by simp), World.cell?_alloc_at _ _ _ _ rfl]; rfl
  have c1 : (mendW w g b (spareOf name)).cell? ⟨w.heap.size + 1, 0, none⟩ = some (.string b) := by
    unfold mendW
    rw [World.cell?_alloc_past _ _ _ (by simp), World.cell?_alloc_past _ _ _ (by simp), World.cell?_alloc_at _ _ _ _ (by simp)]; rfl
  have c2 : (mendW w g b (spareOf name)).cell? ⟨w.heap.size + 1 + 1, 0, none⟩ = some (.string (spareOf name)) := by
    unfold mendW
    rw [World.cell?_alloc_past _ _ _ (by simp), World.cell?_alloc_at _ _ _ _ (by simp)]; rfl
  have hcap : Cap (mendW w g b (spareOf name)) d m w.heap.size g (w.heap.size + 1 + 1) (spareOf name) name rv n z br :=
    ⟨c0, c2, hL.later hbl, by omega, by omega, by omega, by omega, hap.1, hap.2⟩
  refine (steps_any (b := w.heap.size + 1 + 1 + 1) [fun T => T.rmIf (spareOf name), fun T => T.create (spareOf name), fun T => T.append (spareOf name) (b.extract 0 z), fun T => T.sync (spareOf name), fun T => T.rename (spareOf name) name] mendFi (mendCaps w.heap.size (w.heap.size + 1 + 1) (w.heap.size + 1)) hO (h.later hbl) ?_ (by simp) (by omega) (by omega) ?_ ?_ ?_).mono ?_
  · intro f hf T hT
    simp only [List.mem_cons, List.not_mem_nil, or_false] at hf
    rcases hf with rfl | rfl | rfl | rfl | rfl
    · exact hT.rmIf _
    · exact hT.create _
    · exact hT.append _ _
    · exact hT.sync _
    · exact hT.rename _ _
  · intro k hk
    unfold mendW
    rw [World.cell?_alloc_at _ _ _ _ (by simp)]
    match k, hk with
    | 0, _ => rfl
    | 1, _ => rfl
    | 2, _ => rfl
    | 3, _ => rfl
    | 4, _ => rfl
  · intro k hk args W
    match k, hk with
    | 0, _ => exact enters_of Tryz.func71 (by kernel_rfl) rfl args W
    | 1, _ => exact enters_of Tryz.func73 (by kernel_rfl) rfl args W
    | 2, _ => exact enters_of Tryz.func74 (by kernel_rfl) rfl args W
    | 3, _ => exact enters_of Tryz.func75 (by kernel_rfl) rfl args W
    | 4, _ => exact enters_of Tryz.func76 (by kernel_rfl) rfl args W
  · intro k hk W T hT hTO ho
    have hc := hcap.only ho
    match k, hk with
    | 0, _ => exact mend1_any hTO hT hc
    | 1, _ => exact mend2_any hTO hT hc hsp
    | 2, _ => exact mend3_any hTO hT hc (only_cell ho c1 (by show w.heap.size + 1 ≠ d; omega) (by show w.heap.size + 1 ≠ m; omega)) (by omega) (by omega) hz hb
    | 3, _ => exact mend4_any hTO hT hc
    | 4, _ => exact mend5_any hTO hT hc (by omega)
  · rintro e w' ⟨rfl, hd', ho'⟩
    exact ⟨rfl, hd', (Only.of_below hbl).trans ho'⟩

set_option maxRecDepth 100000 in
set_option maxHeartbeats 2000000 in
theorem mend_any {d m g : Nat} {name b : ByteArray} {rv : Value} {n z : Nat} {br : Bool} {S : St} {w : World} (hO : S.Ok) (h : IsDisk w d m S) (hL : LogAt w g (.pointer (some ⟨d, 0, none⟩)) name rv n z br) (hz : z ≤ b.size) (hb : b.size ≤ 1000000) (hn : name.size ≤ 1000000) :
    Calls Tryz.prog 39 #[.pointer (some ⟨g, 0, none⟩), .string b] w fun e w' => e = .returned (.int .i64 (S.mend name (b.extract 0 z)).1) ∧ IsDisk w' d m (S.mend name (b.extract 0 z)).2 ∧ Only d m w w' := by
  have hlog := hL.facts
  have hgl := hlog.2.2.2.2.2.2.2
  have c1 := hlog.2.1
  have HF := Lib.hid (mend_first hO h hL hz hb hn)
  clear h hL hO hlog
  go_enter Tryz.func39, Tryz.ntmps39
  go_wp2_with fail
  refine HF.out.mono ?_
  rintro e w1 ⟨rfl, hd1, ho1⟩
  go_wp2
  go_ret
  exact ⟨rfl, hd1, ho1⟩

end Go.Proofs.YtncpeaamfmfcgaaGreat
