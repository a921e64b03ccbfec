/- DiskTwins: a twin is the same in all; what happens to the one does not to the other. -/
import Derived.Test.YtncpeaamfmfcgaaLight
import Derived.Test.YtncpeaamfmfcgaaSame
namespace Go.Proofs.Ytncpeaamfmfcgaa
open Go.RowKit

/-- Power on, no fuse. -/
def Up (S : St) : Prop := S.on = true ∧ S.fused = false
theorem Up.op {S : St} (h : Up S) : Up S.op := by
  obtain ⟨on, fused, left, ops, files, clock⟩ := S
  obtain ⟨rfl, rfl⟩ := h
  exact ⟨rfl, rfl⟩
theorem Up.does {S : St} (h : Up S) {e : Int} {f : St → St} (hf : ∀ T, Up T → Up (f T)) : Up (S.does e f).2 := by
  unfold St.does
  split
  · split
    · exact h.op
    · split
      · exact hf _ h.op
      · exact h.op
  · exact h
theorem Up.create {S : St} (h : Up S) (s : ByteArray) : Up (S.create s).2 := h.does fun _ hT => hT
theorem Up.sync {S : St} (h : Up S) (s : ByteArray) : Up (S.sync s).2 := h.does fun _ hT => hT
theorem Up.append {S : St} (h : Up S) (s x : ByteArray) : Up (S.append s x).2 := by
  unfold St.append
  split
  · show Up (if appErr S s x = 0 then _ else _)
    split
    · exact h.op
    · exact h.op
  · exact h
theorem IsDisk.only {w w' : World} {d m d2 m2 : Nat} {S : St} (h : IsDisk w d m S) (ho : Only d2 m2 w w') (h1 : d ≠ d2) (h2 : d ≠ m2) (h3 : m ≠ d2) (h4 : m ≠ m2) : IsDisk w' d m S :=
  ⟨(ho.block d h.lt.1 h1 h2).trans h.cells, (ho.block m h.lt.2 h3 h4).trans h.map⟩
theorem IsDisk.drewN {w : World} {d m : Nat} {S : St} (h : IsDisk w d m S) (n : Nat) : IsDisk (w.drewN n) d m S := ⟨h.cells, h.map⟩
theorem sameB_self (l : List ByteArray) : sameB l l = true := decide_eq_true rfl
theorem read_up {d m : Nat} {S : St} (hU : Up S) (s : ByteArray) (w : World) (h : IsDisk w d m S) :
    Calls Try.prog 15 #[.pointer (some ⟨d, 0, none⟩), .string s] w fun e w' => e = .returned (.tuple #[.string (readData S.files s), .int .i64 (lackErr S.files s)]) ∧ Below w.heap.size w w' := by
  have k := read_any d m S s w h
  rw [hU.1] at k
  exact k
theorem names_len {S : St} (h : S.Ok) : (namesOf S.files).length ≤ 9223372036854775807 := by
  rw [namesOf_length]; have := h.few; omega
theorem below_drewN (w : World) (n : Nat) : Below w.heap.size w (w.drewN n) := ⟨rfl, rfl, rfl, Nat.le_refl _, fun _ _ => rfl⟩

set_option maxHeartbeats 8000000 in
set_option maxRecDepth 100000 in
theorem walk_twins (w0 : World) (l : List OpL) (v : Value) (hv : OpsIn w0 v l) (hl : l.length ≤ maxLen) (hf : ∀ o ∈ l, o.Fits) (name : ByteArray) (hname : name.size ≤ maxLen) (data : ByteArray) (hdata : data.size ≤ maxLen) :
    Calls Try.prog 6 #[v, .string name, .string data] w0 fun e w' => e = .returned (.bool true) ∧ Below w0.heap.size w0 w' := by
  unfold maxLen at hl hname hdata
  have n9 : (name.size : Int) ≤ 9223372036854775807 := by omega
  have d9 : (data.size : Int) ≤ 9223372036854775807 := by omega
  have HV := Lib.hid hv
  have HF := Lib.hid hf
  have hlen : (l.length : Int) ≤ 9223372036854775807 := by omega
  obtain ⟨va, vc, rfl, -⟩ := hv
  clear hf
  cases t1 : decide ((30 : Int) < name.size)
  case true =>
    go_enter Try.func6, Try.ntmps6
    go_wp2_with fail
    refine (light_any l _ w0 HV.out (by omega) HF.out).mono ?_
    rintro e w1 ⟨⟨c, rfl, -⟩, hb1⟩
    cases c
    all_goals
      go_wp2_with fail
      refine (alive_any _).mono ?_
      rintro e w3 ⟨rfl, hb3⟩
      go_wp2
      go_ret
      exact ⟨rfl, below_step hb1 hb3⟩
  case false =>
  cases t2 : decide ((3000 : Int) < data.size)
  case true =>
    go_enter Try.func6, Try.ntmps6
    go_wp2_with fail
    refine (light_any l _ w0 HV.out (by omega) HF.out).mono ?_
    rintro e w1 ⟨⟨c, rfl, -⟩, hb1⟩
    cases c
    all_goals
      go_wp2_with fail
      refine (alive_any _).mono ?_
      rintro e w3 ⟨rfl, hb3⟩
      go_wp2
      go_ret
      exact ⟨rfl, below_step hb1 hb3⟩
  case false =>
    have hname30 : name.size ≤ 30 := by have := of_decide_eq_false t1; omega
    have hdata3 : data.size ≤ 3000 := by have := of_decide_eq_false t2; omega
    go_enter Try.func6, Try.ntmps6
    go_wp2_with fail
    refine (light_any l _ w0 HV.out (by omega) HF.out).mono ?_
    rintro e w1 ⟨⟨c, rfl, hc⟩, hb1⟩
    have HB1 := Lib.hid hb1
    clear hb1
    cases c
    case false =>
      go_wp2_with fail
      refine (alive_any _).mono ?_
      rintro e w3 ⟨rfl, hb3⟩
      go_wp2
      go_ret
      exact ⟨rfl, below_step HB1.out hb3⟩
    case true =>
    have HS9 := Lib.hid (hc rfl)
    clear hc
    go_wp2_with fail
    refine (new_ex _).mono ?_
    rintro e w2 ⟨d, m, hd, hm, rfl, hd2, hb2⟩
    have HB2 := Lib.hid (below_step HB1.out hb2)
    have HD2 := Lib.hid hd2
    have hd0 : w0.heap.size ≤ d := Nat.le_trans HB1.out.size hd
    have hm0 : w0.heap.size ≤ m := Nat.le_trans HB1.out.size hm
    clear hd2
    go_wp2
    go_loopw [8] (fun iv wr => ∃ (k : Nat) (S : St), k ≤ l.length ∧ iv = .int .i64 k ∧ IsDisk wr d m S ∧ S.Ok ∧ Up S ∧ Only d m w2 wr) (fun iv _ => l.length - (intOf iv).toNat)
    case atStart => exact ⟨0, St.new, Nat.zero_le _, rfl, HD2.out, St.Ok.new, ⟨rfl, rfl⟩, Only.refl _ _ _⟩
    case round =>
      obtain ⟨k, S, hk, rfl, hd3, hO, hU, ho⟩ := hrel
      have HD3 := Lib.hid hd3
      have HO3 := Lib.hid hO
      have HU3 := Lib.hid hU
      have HO := Lib.hid ho
      have HBr := Lib.hid (ho.below HB2.out HB2.out.size hd0 hm0)
      clear hd3 hO hU ho
      by_cases hkl : k < l.length
      case pos =>
        have tl : decide ((k : Int) < (l.length : Int)) = true := decide_eq_true (by omega)
        obtain ⟨a', cap', he, hcell⟩ := HV.out
        injection he with he1 he2 he3
        subst he1 he3
        obtain ⟨b, off, rfl, hbw, hoc⟩ := hcell k hkl
        have ho' := HF.out l[k] (List.getElem_mem hkl)
        have hs9 := HS9.out.2 l[k] (List.getElem_mem hkl)
        have hki : (k : Int) < (l.length : Int) := by omega
        have hkind := (hoc.later hbw HBr.out).kindC
        have hka := (hoc.later hbw HBr.out).aC
        have HC := Lib.hid (fun W (hW : Below w0.heap.size w0 W) => (show W.cell? ⟨b, off + k * 5 + 2, none⟩ = some (.string l[k].a) ∧ W.cell? ⟨b, off + k * 5 + 3, none⟩ = some (.string l[k].b) from have q := hoc.later hbw hW; ⟨q.aC, q.bC⟩))
        have HA9 := Lib.hid hs9.1
        have HB9 := Lib.hid hs9.2
        clear hoc hcell ho' hs9
        generalize l[k] = o at *
        by_cases q1 : o.kind = 1
        · have k1 : (o.kind == 1) = true := beq_iff_eq.2 q1
          go_wp2_with fail
          refine (create_ok HO3.out o.a (by have := HA9.out; omega) HD3.out).mono ?_
          rintro e w4 ⟨rfl, hd4, ho4⟩
          go_wp2
          go_roundw
          case rel => exact ⟨k + 1, _, hkl, rfl, hd4, HO3.out.create _, HU3.out.create _, HO.out.trans ho4⟩
          case measure => show l.length - ((k + 1 : Nat) : Int).toNat < l.length - (k : Int).toNat; omega
        have k1 : (o.kind == 1) = false := beq_eq_false_iff_ne.2 q1
        by_cases q2 : o.kind = 2
        · have k2 : (o.kind == 2) = true := beq_iff_eq.2 q2
          clear q1 q2 hka
          go_wp2_with fail
          go_region_held3 (fun w' => w'.cell? ⟨b, off + k * 5 + 2, none⟩ = some (.string o.a) ∧ w'.cell? ⟨b, off + k * 5 + 3, none⟩ = some (.string o.b)) (first | exact HC.out _ (HBr.out.trans ((below_of_drew wr).mono HBr.out.size)) | exact HC.out _ ((HO.out.trans ((Only.of_below (below_of_drew wr)).trans (by assumption))).below HB2.out HB2.out.size hd0 hm0)) (first | (go_at_call 12; refine (append_ok HO3.out o.a o.b (by have := HB9.out; omega) (HD3.out.later (below_of_drew wr))).mono ?_; rintro e w4 ⟨rfl, hd4, ho4⟩))
          all_goals
            go_wp2
            go_roundw
            case rel => exact ⟨k + 1, _, hkl, rfl, hd4, HO3.out.append _ _, HU3.out.append _ _, HO.out.trans ((Only.of_below (below_of_drew wr)).trans ho4)⟩
            case measure => show l.length - ((k + 1 : Nat) : Int).toNat < l.length - (k : Int).toNat; omega
        have k2 : (o.kind == 2) = false := beq_eq_false_iff_ne.2 q2
        by_cases q3 : o.kind = 3
        · have k3 : (o.kind == 3) = true := beq_iff_eq.2 q3
          go_wp2_with fail
          refine (sync_ok HO3.out o.a HD3.out).mono ?_
          rintro e w4 ⟨rfl, hd4, ho4⟩
          go_wp2
          go_roundw
          case rel => exact ⟨k + 1, _, hkl, rfl, hd4, HO3.out.sync _, HU3.out.sync _, HO.out.trans ho4⟩
          case measure => show l.length - ((k + 1 : Nat) : Int).toNat < l.length - (k : Int).toNat; omega
        have k3 : (o.kind == 3) = false := beq_eq_false_iff_ne.2 q3
        go_wp2
        go_roundw
        case rel => exact ⟨k + 1, S, hkl, rfl, HD3.out, HO3.out, HU3.out, HO.out⟩
        case measure => show l.length - ((k + 1 : Nat) : Int).toNat < l.length - (k : Int).toNat; omega
      case neg =>
        have tl : decide ((k : Int) < (l.length : Int)) = false := decide_eq_false (by omega)
        have hdw : d < wr.heap.size := HD3.out.lt.1
        have hmw : m < wr.heap.size := HD3.out.lt.2
        go_wp2_with fail
        refine (twin_any d m S wr HD3.out).mono ?_
        rintro e w4 ⟨rfl, ht4, hb4⟩
        have HT4 := Lib.hid ht4
        have HD4 := Lib.hid (HD3.out.later hb4)
        have HB4 := Lib.hid (below_step HBr.out hb4)
        clear ht4 hb4
        go_wp2_with fail
        go_region_held3 (fun _ => True) (trivial) (first
          | (go_at_call 21; have hb5' := hb5; refine (files_ok HO3.out (HD4.out.later ((below_of_drew w4).trans hb5'))).mono ?_; rintro e w6 ⟨v6, rfl, hv6, hb6⟩)
          | (go_at_call 21; refine (files_ok HO3.out (HT4.out.later (below_of_drew w4))).mono ?_; rintro e w5 ⟨v5, rfl, hv5, hb5⟩)
          | (go_at_call 24; refine (same_any _ _ _ _ _ (hv5.later hb6) hv6 (names_len HO3.out)).mono ?_; rw [sameB_self]; rintro e w7 ⟨rfl, n7, rfl⟩)
          | (go_at_call 20; have hdone' := hdone; refine (ops_any _ _ S _ (((HD4.out.later ((below_of_drew w4).trans hb5)).later hb6).drewN n7)).mono ?_; rintro e w8 ⟨rfl, rfl⟩)
          | (go_at_call 20; refine (ops_any _ _ S _ (((HT4.out.later ((below_of_drew w4).trans hb5)).later hb6).drewN n7)).mono ?_; rintro e w8 ⟨rfl, rfl⟩; have hdone := trivial))
        all_goals
          have HB7 := Lib.hid (show Below w4.heap.size w4 (w6.drewN n7) from below_step (below_step ((below_of_drew w4).trans hb5) hb6) (below_drewN w6 n7))
          generalize w6.drewN n7 = w7 at *
          have HD7 := Lib.hid (HD4.out.later HB7.out)
          have HT7 := Lib.hid (HT4.out.later HB7.out)
          go_wp2_with fail
          refine (files_ok HO3.out HD7.out).mono ?_
          rintro e w8 ⟨v8, rfl, hv8, hb8⟩
          have HV8 := Lib.hid hv8
          have HD8 := Lib.hid (HD7.out.later hb8)
          have HT8 := Lib.hid (HT7.out.later hb8)
          clear hv8
          go_wp2_with fail
          refine (read_up HU3.out name _ HD8.out).mono ?_
          rintro e w9 ⟨rfl, hb9⟩
          have HD9 := Lib.hid (HD8.out.later hb9)
          have HT9 := Lib.hid (HT8.out.later hb9)
          have HV9 := Lib.hid (HV8.out.later hb9)
          have HB9 := Lib.hid (below_step (below_step (below_step HB4.out HB7.out) hb8) hb9)
          go_wp2_with fail
          refine (create_ok HO3.out name (by omega) HT9.out).mono ?_
          rintro e w10 ⟨rfl, ht10, ho10⟩
          have HT10 := Lib.hid ht10
          have HO10 := Lib.hid (HO3.out.create name)
          clear ht10
          go_wp2_with fail
          refine (append_ok HO10.out name data (by omega) HT10.out).mono ?_
          rintro e w11 ⟨rfl, ht11, ho11⟩
          have HT11 := Lib.hid ht11
          have HO11 := Lib.hid (HO10.out.append name data)
          clear ht11
          have hlt11 := HT11.out.lt
          have hbA := below_alloc (Below.refl _ w11) (.cells #[.int .i64 9] 3)
          go_wp2_with fail
          refine (crash_ok HO11.out (.slice (some ⟨w11.heap.size, 0, none⟩) 1 1) [9] (HT11.out.later hbA) (ints_only rfl (by simp) (by omega) (by omega) (by
            intro j hj
            obtain rfl : j = 0 := by simp at hj; omega
            rw [World.cell?_alloc_at _ _ _ _ rfl]; rfl))).mono ?_
          rintro e w12 ⟨rfl, ht12, ho12⟩
          have HOT := Lib.hid (ho10.trans (ho11.trans ((Only.of_below hbA).trans ho12)))
          have HT12 := Lib.hid ht12
          clear ht12
          have HD12 := Lib.hid (HD9.out.only HOT.out (by omega) (by omega) (by omega) (by omega))
          have HV12 := Lib.hid (HV9.out.only HT9.out HOT.out)
          have HB12 := Lib.hid (HOT.out.below HB9.out HB9.out.size (Nat.le_trans HBr.out.size (Nat.le_succ _)) HBr.out.size)
          go_wp2_with fail
          refine (read_up HU3.out name _ HD12.out).mono ?_
          rintro e w13 ⟨rfl, hb13⟩
          go_wp2_with (first
            | (go_at_call 9; refine (alive_any _).mono ?_; rintro e w14 ⟨rfl, hb14⟩; have HD14 := Lib.hid ((HD12.out.later hb13).later hb14); have HT14 := Lib.hid ((HT12.out.later hb13).later hb14); have HV14 := Lib.hid ((HV12.out.later hb13).later hb14))
            | (go_at_call 19; have hdone2' := hdone2; refine (on_any _ _ _ _ HT14.out).mono ?_; rintro e w15 ⟨rfl, rfl⟩; rw [show ∀ (T : St) (kp : List Int), (T.crash kp).on = false from fun _ _ => rfl])
            | (go_at_call 19; refine (on_any _ _ S _ HD14.out).mono ?_; rintro e w15 ⟨rfl, rfl⟩; rw [HU3.out.1]; have hdone2 := trivial)
            | (go_at_call 21; refine (files_ok HO3.out HD14.out).mono ?_; rintro e w16 ⟨v16, rfl, hv16, hb16⟩)
            | (go_at_call 24; refine (same_any _ _ _ _ _ hv16 (HV14.out.later hb16) (names_len HO3.out)).mono ?_; rw [sameB_self]; rintro e w17 ⟨rfl, n17, rfl⟩))
          go_ret
          exact ⟨rfl, below_step (below_step (below_step (below_step HB12.out hb13) hb14) hb16) (below_drewN w16 n17)⟩

end Go.Proofs.Ytncpeaamfmfcgaa
