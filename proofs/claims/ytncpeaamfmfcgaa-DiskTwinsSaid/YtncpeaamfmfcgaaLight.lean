/- complinelaw5.Light: where it says yes, every step's texts are short. -/
import Derived.Test.YtncpeaamfmfcgaaOps
import Derived.Test.YtncpeaamfmfcgaaRoom
import Derived.Test.YtncpeaamfmfcgaaDiskHolds
namespace Go.Proofs.Ytncpeaamfmfcgaa
open Go.RowKit

theorem roomF_bounds : ∀ (l : List Int) (r : Int), -1 ≤ r → (∀ s ∈ l, 0 ≤ s) → -1 ≤ roomF r l ∧ roomF r l ≤ r
  | [], r, h, _ => ⟨h, Int.le_refl _⟩
  | s :: l, r, h, hs => by
    have h0 := hs s (by simp)
    simp only [roomF]
    split
    · omega
    · have := roomF_bounds l (r - s) (by omega) (fun x hx => hs x (by simp [hx])); omega
theorem roomF_three {r x y z : Int} (hx : 0 ≤ x) (_hy : 0 ≤ y) (_hz : 0 ≤ z) (h : 0 ≤ roomF r [x, y, z]) : 0 ≤ r ∧ x ≤ r ∧ y ≤ r := by
  simp only [roomF] at h
  split at h
  · omega
  · split at h
    · omega
    · split at h <;> omega

def Short9 (o : OpL) : Prop := o.a.size ≤ 9000 ∧ o.b.size ≤ 9000
/-- What Light says. -/
def LightSays (l : List OpL) (e : Ending) : Prop := ∃ c : Bool, e = .returned (.bool c) ∧ (c = true → l.length ≤ 200 ∧ ∀ o ∈ l, Short9 o)
theorem LightSays.no (l : List OpL) : LightSays l (.returned (.bool false)) := ⟨false, rfl, fun h => nomatch h⟩
theorem LightSays.yes {l : List OpL} (h1 : l.length ≤ 200) (h2 : ∀ o ∈ l, Short9 o) : LightSays l (.returned (.bool true)) := ⟨true, rfl, fun _ => ⟨h1, h2⟩⟩

theorem ints_three (w : World) (x y z : Int) (t : TypeId) : Ints (w.alloc (.cells #[.int .i64 x, .int .i64 y, .int .i64 z] t)) (.slice (some ⟨w.heap.size, 0, none⟩) 3 3) [x, y, z] := by
  refine ⟨_, _, rfl, fun k hk => ⟨_, _, rfl, by simp, ?_⟩⟩
  rw [World.cell?_alloc_at _ _ _ _ rfl]
  have hk3 : k < 3 := hk
  match k, hk3 with
  | 0, _ => rfl
  | 1, _ => rfl
  | 2, _ => rfl

set_option maxHeartbeats 4000000 in
set_option maxRecDepth 100000 in
theorem light_any (l : List OpL) (v : Value) (w : World) (hv : OpsIn w v l) (hl : l.length ≤ 9223372036854775807) (hf : ∀ o ∈ l, o.Fits) :
    Calls Try.prog 22 #[v] w fun e w' => LightSays l e ∧ Below w.heap.size w w' := by
  have HV := Lib.hid hv
  have HF := Lib.hid hf
  obtain ⟨a, cap, rfl, -⟩ := hv
  clear hf
  go_enter Try.func22, Try.ntmps22
  go_wp2
  go_loopw [3, 4] (fun rv iv wr => ∃ (k : Nat) (r : Int), k ≤ l.length ∧ iv = .int .i64 k ∧ rv = .int .i64 r ∧ -1 ≤ r ∧ r ≤ 9000 ∧ Below w.heap.size w wr ∧ (0 ≤ r → ∀ j (h : j < l.length), j < k → Short9 l[j])) (fun _ iv _ => l.length - (intOf iv).toNat)
  case atStart => exact ⟨0, 9000, Nat.zero_le _, rfl, rfl, by omega, by omega, Below.refl _ _, fun _ j _ h => absurd h (by omega)⟩
  case round =>
    obtain ⟨k, r, hk, rfl, rfl, hr0, hr1, hb, hS⟩ := hrel
    have HS := Lib.hid hS
    clear hS
    have HB := Lib.hid hb
    clear hb
    by_cases hkl : k < l.length
    case neg =>
      have t1 : decide ((k : Int) < (l.length : Int)) = false := decide_eq_false (by omega)
      have HE := Lib.hid (show 0 ≤ r → ∀ o ∈ l, Short9 o from fun h o ho => by
        obtain ⟨j, hj, rfl⟩ := List.getElem_of_mem ho
        exact HS.out h j hj (by omega))
      by_cases h2 : l.length ≤ 200
      · have t2 : decide ((l.length : Int) ≤ 200) = true := decide_eq_true (by omega)
        by_cases h3 : 0 ≤ r
        · have t3 : decide (0 ≤ r) = true := decide_eq_true h3
          go_wp2
          go_ret
          exact ⟨LightSays.yes h2 (HE.out h3), HB.out⟩
        · have t3 : decide (0 ≤ r) = false := decide_eq_false h3
          go_wp2
          go_ret
          exact ⟨LightSays.no l, HB.out⟩
      · have t2 : decide ((l.length : Int) ≤ 200) = false := decide_eq_false (by omega)
        go_wp2
        go_ret
        exact ⟨LightSays.no l, HB.out⟩
    have t1 : decide ((k : Int) < (l.length : Int)) = true := decide_eq_true (by omega)
    by_cases hk4 : k < 400
    case neg =>
      have t2 : decide ((k : Int) < 400) = false := decide_eq_false (by omega)
      have t3 : decide ((l.length : Int) ≤ 200) = false := decide_eq_false (by omega)
      go_wp2
      go_ret
      exact ⟨LightSays.no l, HB.out⟩
    have t2 : decide ((k : Int) < 400) = true := decide_eq_true (by omega)
    by_cases hr : 0 ≤ r
    case neg =>
      have t3 : decide (0 ≤ r) = false := decide_eq_false hr
      cases t4 : decide ((l.length : Int) ≤ 200)
      all_goals
        go_wp2
        go_ret
        exact ⟨LightSays.no l, HB.out⟩
    have t3 : decide (0 ≤ r) = true := decide_eq_true hr
    obtain ⟨a', cap', he, hcell⟩ := HV.out.later HB.out
    injection he with he1 he2 he3
    subst he1 he3
    obtain ⟨b, off, rfl, hbw, ho⟩ := hcell k hkl
    have ho' := HF.out l[k] (List.getElem_mem hkl)
    have hstep : 0 ≤ roomF r [(l[k].a.size : Int), (l[k].b.size : Int), (l[k].ll : Int)] → ∀ j (h : j < l.length), j < k + 1 → Short9 l[j] := fun h j hj hjk => by
      have h3 := roomF_three (by omega) (by omega) (by omega) h
      by_cases hj2 : j < k
      · exact HS.out hr j hj hj2
      · obtain rfl : j = k := by omega
        exact ⟨by omega, by omega⟩
    have hbd := roomF_bounds [(l[k].a.size : Int), (l[k].b.size : Int), (l[k].ll : Int)] r hr0 (by intro s hs; simp at hs; omega)
    have hI := ints_three wr (l[k].a.size : Int) (l[k].b.size : Int) (l[k].ll : Int) 3
    have HRM := Lib.hid (fun (W : World) (hW : Ints W (.slice (some ⟨wr.heap.size, 0, none⟩) 3 3) [(l[k].a.size : Int), (l[k].b.size : Int), (l[k].ll : Int)]) => room_any r [(l[k].a.size : Int), (l[k].b.size : Int), (l[k].ll : Int)] (.slice (some ⟨wr.heap.size, 0, none⟩) 3 3) W hW (by intro s hs; simp at hs; omega) (by omega) hr0 (by simp))
    have HST := Lib.hid hstep
    have HBD := Lib.hid hbd
    have HI := Lib.hid hI
    have hsa : (l[k].a.size : Int) ≤ 9223372036854775807 := by have := ho'.a; omega
    have hsb : (l[k].b.size : Int) ≤ 9223372036854775807 := by have := ho'.b; omega
    have hsl : (l[k].ll : Int) ≤ 9223372036854775807 := by have := ho'.l; omega
    have HO := Lib.hid ho
    have HC := Lib.hid (fun W (hW : Below wr.heap.size wr W) => (show W.cell? ⟨b, off + k * 5 + 2, none⟩ = some (.string l[k].a) ∧ W.cell? ⟨b, off + k * 5 + 3, none⟩ = some (.string l[k].b) ∧ W.cell? ⟨b, off + k * 5 + 4, none⟩ = some (.slice l[k].la l[k].ll l[k].lc) from have q := HO.out.later hbw hW; ⟨q.aC, q.bC, q.lC⟩))
    clear hstep hbd hI ho hcell ho'
    generalize l[k] = o at *
    have hki : (k : Int) < (l.length : Int) := by omega
    have HDR := Lib.hid (show Below wr.heap.size wr (wr.alloc (.cells #[.int .i64 (o.a.size : Int), .int .i64 (o.b.size : Int), .int .i64 (o.ll : Int)] 3)).drew from (below_alloc (Below.refl _ wr) _).drew)
    generalize roomF r [(o.a.size : Int), (o.b.size : Int), (o.ll : Int)] = r2 at *
    go_wp2_with fail
    go_region_held3 (fun w' => w'.cell? ⟨b, off + k * 5 + 2, none⟩ = some (.string o.a) ∧ w'.cell? ⟨b, off + k * 5 + 3, none⟩ = some (.string o.b) ∧ w'.cell? ⟨b, off + k * 5 + 4, none⟩ = some (.slice o.la o.ll o.lc)) (first | exact HC.out _ (below_of_drew wr) | exact HC.out _ ((below_alloc (Below.refl _ wr) _).drew)) (first | (go_at_call 41; refine (HRM.out _ (HI.out.later (below_of_drew _))).mono ?_; rintro e w2 ⟨rfl, rfl⟩))
    all_goals
      go_wp2
      go_roundw
      case rel => exact ⟨k + 1, r2, hkl, rfl, rfl, HBD.out.1, Int.le_trans HBD.out.2 hr1, HB.out.trans (HDR.out.mono HB.out.size), HST.out⟩
      case measure => show l.length - ((k + 1 : Nat) : Int).toNat < l.length - (k : Int).toNat; omega

end Go.Proofs.Ytncpeaamfmfcgaa
