/- SumChanged, walked: a frame of which one byte is changed is not found as it was. -/
import Derived.Test.YthaeojbfjfhngaaSumLaws
import Derived.Test.YthaeojbfjfhngaaSumPlain2
import Derived.Lib.ConvBytes
namespace Go.Proofs.Ythaeojbfjfhngaa
open Go.RowKit Go.Proofs.Ythaeojbfjfhngaa.Sum

theorem below_bytes (w : World) (e : TypeId) (s : ByteArray) : Below w.heap.size w (Lib.bytesWorld w e s) := by
  refine ⟨?_, ?_, ?_, by rw [Lib.bytesWorld_size]; omega, fun k hk => Lib.bytesWorld_at_old w e s k hk⟩ <;>
    (unfold Lib.bytesWorld World.freeze; split <;> rfl)

/-- The row of bytes that a conversion makes: its cells, none of which is frozen. -/
theorem bytes_row (w : World) (e : TypeId) (l : List UInt8) : ∃ W, Lib.bytesWorld w e ⟨l.toArray⟩ = W ∧ Below w.heap.size w W ∧ w.heap.size < W.heap.size ∧
    (∀ j (h : j < l.length), W.cell? ⟨w.heap.size, j, none⟩ = some (.int .u8 (l[j].toNat : Int))) ∧ (∀ j, j < l.length → W.frozen? ⟨w.heap.size, j, none⟩ = false) := by
  refine ⟨_, rfl, below_bytes w e _, by rw [Lib.bytesWorld_size]; omega, fun j h => ?_, fun j h => ?_⟩
  · rw [Lib.bytesWorld_cell _ _ _ _ (by rw [mk_size]; exact h)]
    simp [List.getD, List.getElem?_eq_getElem h]
  · have hsz : l.length ≤ (Lib.bytesCells w e ⟨l.toArray⟩).size := by
      unfold Lib.bytesCells; rw [Array.size_append, Array.size_map]; show _ ≤ l.toArray.size + _; rw [List.size_toArray]; omega
    unfold World.frozen?
    rw [Lib.bytesWorld_at_new]
    simp; omega

theorem set_cells {W : World} {g : Nat} {l : List UInt8} (hc : ∀ j (h : j < l.length), W.cell? ⟨g, j, none⟩ = some (.int .u8 (l[j].toNat : Int))) (k : Nat) (hk : k < l.length) (c : UInt8) :
    ∀ j (h : j < (l.set k c).length), (W.setCell ⟨g, k, none⟩ (.int .u8 (c.toNat : Int))).cell? ((⟨g, 0, none⟩ : Addr).add j) = some (.int .u8 ((l.set k c)[j].toNat : Int)) := by
  intro j h
  have hlt : j < l.length := by rw [List.length_set] at h; exact h
  have hadd : (⟨g, 0, none⟩ : Addr).add j = ⟨g, j, none⟩ := by unfold Addr.add; split <;> simp_all
  rw [hadd]
  by_cases hj : j = k
  · subst hj
    rw [World.cell?_setCell_same _ _ _ (hc j hlt), List.getElem_set_self]
  · rw [World.cell?_setCell_other _ _ _ _ (by intro he; injection he with _ he _; omega), hc j hlt, List.getElem_set_ne (by omega)]

theorem xor_byte8 (a : UInt8) (n : Int) (h0 : 0 ≤ n) (h1 : n < 256) : bits .xor .u8 (a.toNat : Int) n = ((a ^^^ UInt8.ofNat n.toNat).toNat : Int) := by
  have ha := a.toNat_lt
  obtain ⟨m, rfl⟩ := Int.eq_ofNat_of_zero_le h0
  rw [u8_xor_nat a.toNat m ha (by omega), UInt8.toNat_xor, UInt8.toNat_ofNat']
  rw [Int.toNat_natCast, Nat.mod_eq_of_lt (show m < 2 ^ 8 by omega)]

theorem xor_ne (a : UInt8) (n : Int) (h0 : 0 < n) (h1 : n < 256) : a ^^^ UInt8.ofNat n.toNat ≠ a := by
  intro h
  have h2 := congrArg UInt8.toNat h
  rw [UInt8.toNat_xor] at h2
  have h3 : a.toNat ^^^ (a.toNat ^^^ (UInt8.ofNat n.toNat).toNat) = a.toNat ^^^ a.toNat := by rw [h2]
  rw [← Nat.xor_assoc, Nat.xor_self, Nat.zero_xor, UInt8.toNat_ofNat'] at h3
  omega

set_option maxHeartbeats 2000000 in
theorem walk_changed (w0 : World) (s : ByteArray) (hs : s.size ≤ maxLen) (at_ : Int) (_hat : -9223372036854775808 ≤ at_ ∧ at_ ≤ 9223372036854775807) (by_ : Int) (_hby : -9223372036854775808 ≤ by_ ∧ by_ ≤ 9223372036854775807) :
    Calls Try.prog 4 #[.string s, .int .i64 at_, .int .i64 by_] w0 fun e w' => e = .returned (.bool true) ∧ Below w0.heap.size w0 w' := by
  unfold maxLen at hs
  by_cases h3 : 3000 < s.size
  · go_enter Try.func4, Try.ntmps4
    go_wp2_with fail
    refine (alive_any _).mono ?_
    rintro e w1 ⟨rfl, hb1⟩
    go_wp2
    go_ret
    exact ⟨rfl, hb1⟩
  · by_cases h0 : by_ % 256 = 0
    · have hq : (by_ % 256 == 0) = true := by rw [beq_iff_eq]; exact h0
      clear h0
      go_enter Try.func4, Try.ntmps4
      go_wp2_with fail
      refine (alive_any _).mono ?_
      rintro e w1 ⟨rfl, hb1⟩
      go_wp2
      go_ret
      exact ⟨rfl, hb1⟩
    · have hq : (by_ % 256 == 0) = false := by rw [beq_eq_false_iff_ne]; exact h0
      have hfl := frame_length s.data.toList
      rw [← Lib.size_eq] at hfl
      have HCH := Lib.hid (changed s.data.toList (by rw [← Lib.size_eq]; omega))
      have HONE : Hid (frames (raw [s]) = frame s.data.toList) := by
        show frames [s.data.toList] = _
        rw [frames_one]
      have hn0 : (0 : Int) < ((s.size + 8 : Nat) : Int) := by omega
      obtain ⟨F, hF⟩ : ∃ F, F = frame s.data.toList := ⟨_, rfl⟩
      rw [← hF] at hfl
      have HF := Lib.hid hF
      have HFL := Lib.hid hfl
      clear hF hfl
      have hFl : (F.length : Int) = s.size + 8 := by have := HFL.out; omega
      have hlen : ((F.length : Int) != (s.size : Int) + 8) = false := by rw [hFl]; simp
      have HFI := Lib.hid hFl
      have hF2 : F.length ≤ 3008 := by omega
      have hF3 : (0 : Int) < F.length := by omega
      have hF4 : (F.length : Int) ≠ 0 := by omega
      clear hFl hn0
      go_enter Try.func4, Try.ntmps4
      go_wp2_with fail
      refine (frame_any [s] _ _ (strs_one _ s _) (by simp) (by intro x hx; simp at hx; subst hx; omega) (by rw [HONE.out, ← HF.out]; omega)).mono ?_
      rintro e w1 ⟨rfl, hb1⟩
      rw [HONE.out, ← HF.out]
      have HB1 := Lib.hid (below_step (below_alloc (Below.refl _ w0) _) hb1)
      clear hb1
      have hcv := Lib.run_convert_string_bytes (P := Try.prog) w1 9 30 5 ⟨F.toArray⟩ Try.underlying9 Try.underlying30 Try.underlying5
      rw [mk_size] at hcv
      obtain ⟨W, hW, hbW, hgW, hcW, hfW⟩ := bytes_row w1 5 F
      rw [hW] at hcv
      generalize grownCap w1 F.length 0 5 = capb at hcv
      have HCW := Lib.hid hcW
      have HFW := Lib.hid hfW
      have HBW := Lib.hid (below_step HB1.out hbW)
      clear hW hbW hcW hfW
      obtain ⟨g, hg⟩ : ∃ g, w1.heap.size = g := ⟨_, rfl⟩
      have HG := Lib.hid hg
      rw [hg] at hcv hgW HCW HFW
      clear hg
      have hlo := Int.lt_tmod_of_pos at_ hF3
      have hhi := Int.tmod_lt_of_pos at_ hF3
      by_cases hneg : at_.tmod F.length < 0
      · obtain ⟨k, hk⟩ := Int.eq_ofNat_of_zero_le (show 0 ≤ at_.tmod F.length + F.length by omega)
        have hkl : k < F.length := by omega
        have hcell := HCW.out k hkl
        have hfz := HFW.out k hkl
        have hx8 := xor_byte8 F[k] (by_ % 256) (by omega) (by omega)
        have hne := xor_ne F[k] (by_ % 256) (by omega) (by omega)
        have HCH' : Hid _ := HCH.out k (by rw [← HF.out]; exact hkl) (F[k] ^^^ UInt8.ofNat (by_ % 256).toNat) (by simp only [← HF.out]; exact hne)
        have hback := run_convert_bytes_back (P := Try.prog) _ 30 9 5 ⟨g, 0, none⟩ capb (F.set k (F[k] ^^^ UInt8.ofNat (by_ % 256).toNat)) Try.underlying30 Try.underlying5 Try.underlying9 (set_cells HCW.out k hkl _)
        rw [List.length_set] at hback
        rw [← HF.out] at HCH'
        generalize (F[k] ^^^ UInt8.ofNat (by_ % 256).toNat) = c at *
        generalize F[k] = y at *
        have HBS := Lib.hid (HBW.out.setCell (p := ⟨g, k, none⟩) (by have := HB1.out.size; rw [HG.out] at this; exact this) (.int .u8 (c.toNat : Int)))
        have hFs : (F.set k c).length ≤ 3008 := by rw [List.length_set]; exact hF2
        clear hne
        go_wp2_with fail
        obtain ⟨p, n, hpn⟩ : ∃ p n, scan (F.set k c) = (p, n) := ⟨_, _, rfl⟩
        rw [hpn] at HCH'
        refine (scan_of _ p n _ (by rw [mk_size]; omega) (by rw [mk_toList]; exact hpn)).mono ?_
        rintro e w2 ⟨v, rfl, hb2, l, hl, hv⟩
        have HB2 := Lib.hid (below_step HBS.out hb2)
        obtain ⟨av, capv, rfl, -⟩ := id hv.shape
        have HV := Lib.hid hv
        clear hv hb2 hback hcell hfz hx8 hpn hcv hFs
        by_cases hk4 : k < 4
        · by_cases hl0 : l = []
          · subst hl0
            go_wp2_with fail
            refine (alive_any _).mono ?_
            rintro e w3 ⟨rfl, hb3⟩
            go_wp2
            go_ret
            exact ⟨rfl, below_step HB2.out hb3⟩
          · by_cases hl1 : l.length = 1
            · obtain ⟨x, rfl⟩ := List.length_eq_one_iff.1 hl1
              have hxs : (x.toList == s.toList) = false := by
                rw [ByteArray.toList_eq, ByteArray.toList_eq, beq_eq_false_iff_ne]
                exact HCH'.out.2 hk4 x.data.toList [] (by rw [← hl]; rfl)
              rcases HV.out.cases with ⟨h, _⟩ | ⟨b, off, cap, hvv, _, hbb, hcc⟩
              · cases h
              injection hvv with ha _ _
              subst ha
              have hc0 : w2.cell? ⟨b, off, none⟩ = some (.string x) := hcc 0 (by simp)
              have hbw := hbb.1
              have HC0 := Lib.hid hc0
              clear hcc hbb hc0 hl hl1 hl0
              go_wp2_with fail
              refine (alive_any _).mono ?_
              rintro e w3 ⟨rfl, hb3⟩
              have hc3 := (hb3.cell (p := ⟨b, off, none⟩) hbw).trans HC0.out
              go_wp2
              go_ret
              exact ⟨rfl, below_step HB2.out hb3⟩
            · have hq1 : ((l.length : Int) == 1) = false := by rw [beq_eq_false_iff_ne]; omega
              clear hl1 hl0 hl
              go_wp2_with fail
              refine (alive_any _).mono ?_
              rintro e w3 ⟨rfl, hb3⟩
              go_wp2
              go_ret
              exact ⟨rfl, below_step HB2.out hb3⟩
        · have h00 := HCH'.out.1 (by omega)
          injection h00 with hp hn
          subst hp hn
          obtain rfl : l = [] := raw_inj hl
          clear hl
          go_wp2_with fail
          refine (alive_any _).mono ?_
          rintro e w3 ⟨rfl, hb3⟩
          go_wp2
          go_ret
          exact ⟨rfl, below_step HB2.out hb3⟩
      · obtain ⟨k, hk⟩ := Int.eq_ofNat_of_zero_le (Int.not_lt.1 hneg)
        have hkl : k < F.length := by omega
        have hcell := HCW.out k hkl
        have hfz := HFW.out k hkl
        have hx8 := xor_byte8 F[k] (by_ % 256) (by omega) (by omega)
        have hne := xor_ne F[k] (by_ % 256) (by omega) (by omega)
        have HCH' : Hid _ := HCH.out k (by rw [← HF.out]; exact hkl) (F[k] ^^^ UInt8.ofNat (by_ % 256).toNat) (by simp only [← HF.out]; exact hne)
        have hback := run_convert_bytes_back (P := Try.prog) _ 30 9 5 ⟨g, 0, none⟩ capb (F.set k (F[k] ^^^ UInt8.ofNat (by_ % 256).toNat)) Try.underlying30 Try.underlying5 Try.underlying9 (set_cells HCW.out k hkl _)
        rw [List.length_set] at hback
        rw [← HF.out] at HCH'
        generalize (F[k] ^^^ UInt8.ofNat (by_ % 256).toNat) = c at *
        generalize F[k] = y at *
        have HBS := Lib.hid (HBW.out.setCell (p := ⟨g, k, none⟩) (by have := HB1.out.size; rw [HG.out] at this; exact this) (.int .u8 (c.toNat : Int)))
        have hFs : (F.set k c).length ≤ 3008 := by rw [List.length_set]; exact hF2
        clear hne
        go_wp2_with fail
        obtain ⟨p, n, hpn⟩ : ∃ p n, scan (F.set k c) = (p, n) := ⟨_, _, rfl⟩
        rw [hpn] at HCH'
        refine (scan_of _ p n _ (by rw [mk_size]; omega) (by rw [mk_toList]; exact hpn)).mono ?_
        rintro e w2 ⟨v, rfl, hb2, l, hl, hv⟩
        have HB2 := Lib.hid (below_step HBS.out hb2)
        obtain ⟨av, capv, rfl, -⟩ := id hv.shape
        have HV := Lib.hid hv
        clear hv hb2 hback hcell hfz hx8 hpn hcv hFs
        by_cases hk4 : k < 4
        · by_cases hl0 : l = []
          · subst hl0
            go_wp2_with fail
            refine (alive_any _).mono ?_
            rintro e w3 ⟨rfl, hb3⟩
            go_wp2
            go_ret
            exact ⟨rfl, below_step HB2.out hb3⟩
          · by_cases hl1 : l.length = 1
            · obtain ⟨x, rfl⟩ := List.length_eq_one_iff.1 hl1
              have hxs : (x.toList == s.toList) = false := by
                rw [ByteArray.toList_eq, ByteArray.toList_eq, beq_eq_false_iff_ne]
                exact HCH'.out.2 hk4 x.data.toList [] (by rw [← hl]; rfl)
              rcases HV.out.cases with ⟨h, _⟩ | ⟨b, off, cap, hvv, _, hbb, hcc⟩
              · cases h
              injection hvv with ha _ _
              subst ha
              have hc0 : w2.cell? ⟨b, off, none⟩ = some (.string x) := hcc 0 (by simp)
              have hbw := hbb.1
              have HC0 := Lib.hid hc0
              clear hcc hbb hc0 hl hl1 hl0
              go_wp2_with fail
              refine (alive_any _).mono ?_
              rintro e w3 ⟨rfl, hb3⟩
              have hc3 := (hb3.cell (p := ⟨b, off, none⟩) hbw).trans HC0.out
              go_wp2
              go_ret
              exact ⟨rfl, below_step HB2.out hb3⟩
            · have hq1 : ((l.length : Int) == 1) = false := by rw [beq_eq_false_iff_ne]; omega
              clear hl1 hl0 hl
              go_wp2_with fail
              refine (alive_any _).mono ?_
              rintro e w3 ⟨rfl, hb3⟩
              go_wp2
              go_ret
              exact ⟨rfl, below_step HB2.out hb3⟩
        · have h00 := HCH'.out.1 (by omega)
          injection h00 with hp hn
          subst hp hn
          obtain rfl : l = [] := raw_inj hl
          clear hl
          go_wp2_with fail
          refine (alive_any _).mono ?_
          rintro e w3 ⟨rfl, hb3⟩
          go_wp2
          go_ret
          exact ⟨rfl, below_step HB2.out hb3⟩

end Go.Proofs.Ythaeojbfjfhngaa
