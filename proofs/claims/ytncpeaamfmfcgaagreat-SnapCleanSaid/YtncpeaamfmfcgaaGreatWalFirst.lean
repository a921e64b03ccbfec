/- wal.first does steps up to the first one that fails, whatever the steps are. -/
import Derived.Test.YtncpeaamfmfcgaaGreatBase
import Derived.Test.YtncpeaamfmfcgaaGreatSumNum
namespace Go.Proofs.YtncpeaamfmfcgaaGreat
open Go.RowKit

/-- All n steps went well, or one of them did not. -/
def FirstOut (P : Nat → World → Prop) (Q : Int → World → Prop) (n : Nat) (e : Ending) (w' : World) : Prop :=
  (e = .returned (.int .i64 0) ∧ P n w') ∨ ∃ x : Int, x ≠ 0 ∧ e = .returned (.int .i64 x) ∧ Q x w'
/-- What a step comes to. -/
def StepOut (P : Nat → World → Prop) (Q : Int → World → Prop) (k : Nat) (e : Ending) (w' : World) : Prop :=
  ∃ x : Int, e = .returned (.int .i64 x) ∧ (x = 0 → P (k + 1) w') ∧ (x ≠ 0 → Q x w')

set_option maxRecDepth 100000 in
set_option maxHeartbeats 2000000 in
theorem first_any (b n : Nat) (fi : Nat → Nat) (caps : Nat → Array Value) (P : Nat → World → Prop) (Q : Int → World → Prop) (w : World) (h0 : P 0 w)
    (hcell : ∀ k, k < n → ∀ W, P k W → W.cell? ⟨b, k, none⟩ = some (.func (.func (fi k)) #[] (caps k)))
    (hent : ∀ k, k < n → ∀ args W, (callFunc (fi k) args).run Tryz.prog W = .ok (.enter (fi k) args) W)
    (hstep : ∀ k, k < n → ∀ W, P k W → Calls Tryz.prog (fi k) (caps k) W (StepOut P Q k)) (hn : n ≤ 100) :
    Calls Tryz.prog 44 #[.slice (some ⟨b, 0, none⟩) n n] w (FirstOut P Q n) := by
  have H0 := Lib.hid h0
  have HC := Lib.hid hcell
  have HS := Lib.hid hstep
  have HE := Lib.hid hent
  clear h0 hcell hstep hent
  go_enter Tryz.func44, Tryz.ntmps44
  go_wp2
  go_loopw [8] (fun iv wr => ∃ k : Nat, k ≤ n ∧ iv = .int .i64 (k : Int) ∧ P k wr) (fun iv _ => n - (intOf iv).toNat)
  case atStart => exact ⟨0, Nat.zero_le _, rfl, H0.out⟩
  case round =>
    obtain ⟨k, hk, rfl, hP⟩ := hrel
    have HP := Lib.hid hP
    clear hP
    by_cases hlt : k < n
    · have hc := HC.out k hlt wr HP.out
      have he := HE.out k hlt
      go_wp2_with fail
      refine (HS.out k hlt wr HP.out).mono ?_
      rintro e w1 ⟨x, rfl, hx0, hx1⟩
      have HX0 := Lib.hid hx0
      have HX1 := Lib.hid hx1
      clear hx0 hx1 he
      by_cases hx : x = 0
      · have HP1 := Lib.hid (HX0.out hx)
        have t1 : (x != 0) = false := by rw [hx]; rfl
        clear hx
        go_wp2
        go_roundw
        case rel => exact ⟨k + 1, by omega, by go_num, HP1.out⟩
        case measure => simp [intOf]; omega
      · have HQ := Lib.hid (show x ≠ 0 ∧ Q x w1 from ⟨hx, HX1.out hx⟩)
        have t1 : (x != 0) = true := by rw [bne_iff_ne]; exact hx
        clear hx
        go_wp2
        go_ret
        exact .inr ⟨x, HQ.out.1, rfl, HQ.out.2⟩
    · have hkn : k = n := by omega
      have HPN := Lib.hid (show P n wr by rw [← hkn]; exact HP.out)
      clear hkn
      go_wp2
      go_ret
      exact .inl ⟨rfl, HPN.out⟩

end Go.Proofs.YtncpeaamfmfcgaaGreat
