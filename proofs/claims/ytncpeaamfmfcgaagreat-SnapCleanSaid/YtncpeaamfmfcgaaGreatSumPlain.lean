/- The plain side of package sum: check sums, frames and what a scan finds, over lists of bytes. No program, no memory. -/
namespace Go.Proofs.YtncpeaamfmfcgaaGreat.Sum

def crcBit (x : Nat) : Nat := if x % 2 = 1 then (x / 2) ^^^ 3988292384 else x / 2
def crcBits : Nat → Nat → Nat
  | 0, x => x
  | n + 1, x => crcBit (crcBits n x)
def crcByte (x : Nat) (b : UInt8) : Nat := crcBits 8 (x ^^^ b.toNat)
def crcRun (x : Nat) (l : List UInt8) : Nat := l.foldl crcByte x
def crc (l : List UInt8) : Nat := 4294967295 - crcRun 4294967295 l

theorem crcBit_lt {x : Nat} (h : x < 4294967296) : crcBit x < 4294967296 := by
  unfold crcBit
  split
  · exact Nat.xor_lt_two_pow (n := 32) (by omega) (by decide)
  · omega

theorem crcBits_lt (n : Nat) {x : Nat} (h : x < 4294967296) : crcBits n x < 4294967296 := by
  induction n with
  | zero => exact h
  | succ n ih => exact crcBit_lt ih

theorem crcByte_lt {x : Nat} (b : UInt8) (h : x < 4294967296) : crcByte x b < 4294967296 :=
  crcBits_lt 8 (Nat.xor_lt_two_pow (n := 32) h (by have := b.toNat_lt; omega))

theorem crcRun_lt (l : List UInt8) : ∀ {x : Nat}, x < 4294967296 → crcRun x l < 4294967296 := by
  induction l with
  | nil => intro x h; exact h
  | cons b l ih => intro x h; exact ih (crcByte_lt b h)

theorem crc_lt (l : List UInt8) : crc l < 4294967296 := by unfold crc; omega

theorem crcRun_append (x : Nat) (a b : List UInt8) : crcRun x (a ++ b) = crcRun (crcRun x a) b := by
  unfold crcRun; exact List.foldl_append ..

theorem crcRun_take_succ (x : Nat) (l : List UInt8) (k : Nat) (h : k < l.length) : crcRun x (l.take (k + 1)) = crcByte (crcRun x (l.take k)) l[k] := by
  rw [List.take_succ_eq_append_getElem h, crcRun_append]; rfl

/-! A changed byte changes the sum: each bit's step can be undone. -/
theorem crcBit_top {x : Nat} (h : x < 4294967296) : (crcBit x).testBit 31 = decide (x % 2 = 1) := by
  unfold crcBit
  have h0 : (x / 2).testBit 31 = false := Nat.testBit_lt_two_pow (by omega)
  split
  · rename_i h1
    rw [Nat.testBit_xor, h0, decide_eq_true h1]; decide
  · rename_i h1
    rw [h0, decide_eq_false h1]

theorem xor_cancel {a b c : Nat} (h : a ^^^ c = b ^^^ c) : a = b := by
  have h2 : (a ^^^ c) ^^^ c = (b ^^^ c) ^^^ c := by rw [h]
  rwa [Nat.xor_assoc, Nat.xor_self, Nat.xor_zero, Nat.xor_assoc, Nat.xor_self, Nat.xor_zero] at h2

theorem crcBit_inj {x y : Nat} (hx : x < 4294967296) (hy : y < 4294967296) (h : crcBit x = crcBit y) : x = y := by
  have h1 := crcBit_top hx
  rw [h, crcBit_top hy] at h1
  have h2 : (y % 2 = 1) ↔ (x % 2 = 1) := by simpa using h1
  unfold crcBit at h
  by_cases hx1 : x % 2 = 1
  · rw [if_pos hx1, if_pos (h2.2 hx1)] at h
    have := xor_cancel h
    have := h2.2 hx1
    omega
  · rw [if_neg hx1, if_neg (fun q => hx1 (h2.1 q))] at h
    have : ¬ y % 2 = 1 := fun q => hx1 (h2.1 q)
    omega

theorem crcBits_inj (n : Nat) {x y : Nat} (hx : x < 4294967296) (hy : y < 4294967296) (h : crcBits n x = crcBits n y) : x = y := by
  induction n with
  | zero => exact h
  | succ n ih => exact ih (crcBit_inj (crcBits_lt n hx) (crcBits_lt n hy) h)

theorem byte_lt (b : UInt8) : b.toNat < 4294967296 := by have := b.toNat_lt; omega

theorem crcByte_inj_left {x y : Nat} (b : UInt8) (hx : x < 4294967296) (hy : y < 4294967296) (h : crcByte x b = crcByte y b) : x = y :=
  xor_cancel (crcBits_inj 8 (Nat.xor_lt_two_pow (n := 32) hx (byte_lt b)) (Nat.xor_lt_two_pow (n := 32) hy (byte_lt b)) h)

theorem crcByte_inj_right {x : Nat} (b c : UInt8) (hx : x < 4294967296) (h : crcByte x b = crcByte x c) : b = c := by
  have h1 := crcBits_inj 8 (Nat.xor_lt_two_pow (n := 32) hx (byte_lt b)) (Nat.xor_lt_two_pow (n := 32) hx (byte_lt c)) h
  rw [Nat.xor_comm x, Nat.xor_comm x] at h1
  exact UInt8.toNat_inj.1 (xor_cancel h1)

theorem crcRun_inj (l : List UInt8) : ∀ {x y : Nat}, x < 4294967296 → y < 4294967296 → crcRun x l = crcRun y l → x = y := by
  induction l with
  | nil => intro x y _ _ h; exact h
  | cons b l ih => intro x y hx hy h; exact crcByte_inj_left b hx hy (ih (crcByte_lt b hx) (crcByte_lt b hy) h)

theorem crc_set_ne (l : List UInt8) (k : Nat) (h : k < l.length) (c : UInt8) (hc : c ≠ l[k]) : crc (l.set k c) ≠ crc l := by
  intro he
  have hl : l = l.take k ++ l[k] :: l.drop (k + 1) := by rw [← List.drop_eq_getElem_cons h, List.take_append_drop]
  have hs : l.set k c = l.take k ++ c :: l.drop (k + 1) := by
    rw [List.set_eq_take_append_cons_drop, if_pos h]
  have h1 := crcRun_lt (l.set k c) (x := 4294967295) (by decide)
  have h2 := crcRun_lt l (x := 4294967295) (by decide)
  have h3 : crcRun 4294967295 (l.set k c) = crcRun 4294967295 l := by unfold crc at he; omega
  rw [hs] at h3
  conv at h3 => rhs; rw [hl]
  rw [crcRun_append, crcRun_append] at h3
  have hx := crcRun_lt (l.take k) (x := 4294967295) (by decide)
  exact hc (crcByte_inj_right c l[k] hx (crcRun_inj (l.drop (k + 1)) (crcByte_lt c hx) (crcByte_lt l[k] hx) h3))

/-! Numbers of four bytes. -/
def four (n : Nat) : List UInt8 := [UInt8.ofNat (n / 16777216), UInt8.ofNat (n / 65536), UInt8.ofNat (n / 256), UInt8.ofNat n]
def num (b : List UInt8) : Nat := (b.getD 0 0).toNat * 16777216 + (b.getD 1 0).toNat * 65536 + (b.getD 2 0).toNat * 256 + (b.getD 3 0).toNat

@[simp] theorem four_length (n : Nat) : (four n).length = 4 := rfl

theorem num_four (n : Nat) (h : n < 4294967296) (r : List UInt8) : num (four n ++ r) = n := by
  unfold num four
  simp [UInt8.toNat_ofNat']
  omega

theorem num_lt (b : List UInt8) : num b < 4294967296 := by
  unfold num
  have := (b.getD 0 0).toNat_lt; have := (b.getD 1 0).toNat_lt; have := (b.getD 2 0).toNat_lt; have := (b.getD 3 0).toNat_lt
  omega

theorem four_num (b : List UInt8) (h : 4 ≤ b.length) : four (num b) = b.take 4 := by
  match b, h with
  | a :: b :: c :: d :: r, _ =>
    unfold num four
    have := a.toNat_lt; have := b.toNat_lt; have := c.toNat_lt; have := d.toNat_lt
    simp only [List.getD_cons_zero, List.getD_cons_succ, List.take_succ_cons, List.take_zero]
    refine List.cons_eq_cons.2 ⟨?_, List.cons_eq_cons.2 ⟨?_, List.cons_eq_cons.2 ⟨?_, List.cons_eq_cons.2 ⟨?_, rfl⟩⟩⟩⟩ <;>
      (apply UInt8.toNat_inj.1; rw [UInt8.toNat_ofNat']; omega)
attribute [irreducible] num four crc

/-! Frames. -/
def frame (s : List UInt8) : List UInt8 := four s.length ++ four (crc s) ++ s
def frames : List (List UInt8) → List UInt8
  | [] => []
  | s :: l => frame s ++ frames l

theorem frame_length (s : List UInt8) : (frame s).length = s.length + 8 := by unfold frame; simp; omega
theorem frames_append (a b : List (List UInt8)) : frames (a ++ b) = frames a ++ frames b := by
  induction a with
  | nil => rfl
  | cons s a ih => show frame s ++ frames (a ++ b) = _; rw [ih]; simp [frames]

/-! What a scan finds. -/
def ok (b : List UInt8) : Prop := 8 ≤ b.length ∧ num b ≤ 60000 ∧ num b ≤ b.length - 8 ∧ crc ((b.drop 8).take (num b)) = num (b.drop 4)
instance (b : List UInt8) : Decidable (ok b) := by unfold ok; exact inferInstance

def scanF : Nat → List UInt8 → List (List UInt8) × Nat
  | 0, _ => ([], 0)
  | k + 1, b => if ok b then ((b.drop 8).take (num b) :: (scanF k (b.drop (8 + num b))).1, (scanF k (b.drop (8 + num b))).2 + (8 + num b)) else ([], 0)

theorem scanF_more (k : Nat) : ∀ (j : Nat) (b : List UInt8), b.length ≤ k → b.length ≤ j → scanF k b = scanF j b := by
  induction k with
  | zero =>
    intro j b h _
    have hb : ¬ ok b := fun q => by have := q.1; omega
    cases j with
    | zero => rfl
    | succ j => simp only [scanF]; rw [if_neg hb]
  | succ k ih =>
    intro j b h hj
    by_cases hb : ok b
    · have := hb.1
      cases j with
      | zero => omega
      | succ j =>
        simp only [scanF]
        rw [ih j (b.drop (8 + num b)) (by rw [List.length_drop]; omega) (by rw [List.length_drop]; omega)]
    · cases j with
      | zero => simp only [scanF]; rw [if_neg hb]
      | succ j => simp only [scanF]; rw [if_neg hb, if_neg hb]

def scan (b : List UInt8) : List (List UInt8) × Nat := scanF b.length b

theorem scan_stop (b : List UInt8) (h : ¬ ok b) : scan b = ([], 0) := by
  unfold scan
  cases hl : b.length with
  | zero => rfl
  | succ k => simp only [scanF]; rw [if_neg h]

theorem scan_go (b : List UInt8) (h : ok b) : scan b = ((b.drop 8).take (num b) :: (scan (b.drop (8 + num b))).1, (scan (b.drop (8 + num b))).2 + (8 + num b)) := by
  unfold scan
  have h8 := h.1
  cases hl : b.length with
  | zero => omega
  | succ k =>
    simp only [scanF]
    rw [if_pos h, scanF_more k (b.drop (8 + num b)).length (b.drop (8 + num b)) (by rw [List.length_drop]; omega) (Nat.le_refl _)]

theorem drop8 (a b c : List UInt8) (ha : a.length = 4) (hb : b.length = 4) : (a ++ (b ++ c)).drop 8 = c := by
  have : (8 : Nat) = 4 + 4 := rfl
  rw [this, ← List.drop_drop, List.drop_left' ha, List.drop_left' hb]

theorem frame_parts (s r : List UInt8) (h : s.length ≤ 60000) :
    num (frame s ++ r) = s.length ∧ ((frame s ++ r).drop 8).take s.length = s ∧ num ((frame s ++ r).drop 4) = crc s ∧ (frame s ++ r).drop (8 + s.length) = r := by
  have e : frame s ++ r = four s.length ++ (four (crc s) ++ (s ++ r)) := by unfold frame; simp
  rw [e]
  refine ⟨num_four _ (by omega) _, ?_, ?_, ?_⟩
  · rw [drop8 _ _ _ (four_length _) (four_length _)]; simp
  · rw [List.drop_left' (four_length _)]; exact num_four _ (crc_lt s) _
  · rw [← List.drop_drop, drop8 _ _ _ (four_length _) (four_length _)]; simp

theorem ok_frame (s r : List UInt8) (h : s.length ≤ 60000) : ok (frame s ++ r) := by
  obtain ⟨h1, h2, h3, h4⟩ := frame_parts s r h
  refine ⟨?_, ?_, ?_, ?_⟩
  · rw [List.length_append, frame_length]; omega
  · rw [h1]; exact h
  · rw [h1, List.length_append, frame_length]; omega
  · rw [h1, h2, h3]

theorem scan_frame (s r : List UInt8) (h : s.length ≤ 60000) : scan (frame s ++ r) = (s :: (scan r).1, (scan r).2 + (8 + s.length)) := by
  obtain ⟨h1, h2, h3, h4⟩ := frame_parts s r h
  rw [scan_go _ (ok_frame s r h), h1, h2, h4]

theorem scan_frames (l : List (List UInt8)) (r : List UInt8) (h : ∀ s ∈ l, s.length ≤ 60000) :
    scan (frames l ++ r) = (l ++ (scan r).1, (scan r).2 + (frames l).length) := by
  induction l with
  | nil => simp [frames]
  | cons s l ih =>
    have e : frames (s :: l) ++ r = frame s ++ (frames l ++ r) := by simp [frames]
    rw [e, scan_frame s _ (h s (by simp)), ih (fun t ht => h t (by simp [ht]))]
    simp only [frames, List.length_append, frame_length, List.cons_append]
    congr 1; omega

theorem scan_short (r : List UInt8) (h : r.length < 8) : scan r = ([], 0) := scan_stop r (fun q => by have := q.1; omega)

/-- What is found was framed so, and lies at the front. -/
theorem ok_eq (b : List UInt8) (h : ok b) : frame ((b.drop 8).take (num b)) ++ b.drop (8 + num b) = b := by
  obtain ⟨h1, h2, h3, h4⟩ := h
  have hl : ((b.drop 8).take (num b)).length = num b := by simp; omega
  unfold frame
  rw [hl, h4, four_num b (by omega), four_num (b.drop 4) (by simp; omega)]
  have e1 : b = b.take 4 ++ (b.drop 4) := (List.take_append_drop 4 b).symm
  have e2 : b.drop 4 = (b.drop 4).take 4 ++ (b.drop 4).drop 4 := (List.take_append_drop 4 _).symm
  have e3 : (b.drop 4).drop 4 = b.drop 8 := by rw [List.drop_drop]
  have e4 : b.drop 8 = (b.drop 8).take (num b) ++ (b.drop 8).drop (num b) := (List.take_append_drop _ _).symm
  have e5 : (b.drop 8).drop (num b) = b.drop (8 + num b) := by rw [List.drop_drop]
  rw [← e5]
  conv => rhs; rw [e1, e2, e3, e4]
  simp

theorem scan_spec_aux (n : Nat) : ∀ (b : List UInt8), b.length ≤ n → frames (scan b).1 = b.take (scan b).2 ∧ (scan b).2 ≤ b.length ∧ (∀ s ∈ (scan b).1, s.length ≤ 60000) ∧ (frames (scan b).1).length = (scan b).2 := by
  induction n with
  | zero =>
    intro b hb
    rw [scan_stop b (fun q => by have := q.1; omega)]; simp [frames]
  | succ n ih =>
    intro b hb
    by_cases h : ok b
    · have h8 := h.1
      obtain ⟨i1, i2, i3, i4⟩ := ih (b.drop (8 + num b)) (by rw [List.length_drop]; omega)
      have he := ok_eq b h
      have hk : ((b.drop 8).take (num b)).length = num b := by have := h.2.2.1; rw [List.length_take, List.length_drop]; omega
      have h60 := h.2.1
      rw [scan_go b h]
      generalize scan (b.drop (8 + num b)) = q at *
      generalize (b.drop 8).take (num b) = f at *
      generalize b.drop (8 + num b) = d at *
      generalize num b = m at *
      obtain ⟨q1, q2⟩ := q
      simp only at i1 i2 i3 i4 ⊢
      subst he
      have hm : m + 8 = (frame f).length := by rw [frame_length, hk]
      refine ⟨?_, ?_, ?_, ?_⟩
      · rw [show q2 + (8 + m) = (frame f).length + q2 from by omega, List.take_length_add_append, ← i1]; rfl
      · rw [List.length_append]; omega
      · intro s hs'
        rcases List.mem_cons.1 hs' with hs' | hs'
        · rw [hs', hk]; exact h60
        · exact i3 s hs'
      · rw [frames, List.length_append, i4]; omega
    · rw [scan_stop b h]; simp [frames]

theorem scan_spec (b : List UInt8) : frames (scan b).1 = b.take (scan b).2 ∧ (scan b).2 ≤ b.length ∧ (∀ s ∈ (scan b).1, s.length ≤ 60000) ∧ (frames (scan b).1).length = (scan b).2 :=
  scan_spec_aux b.length b (Nat.le_refl _)

/-- Cut anywhere, the frames ahead of the cut are found. -/
theorem scan_cut (l : List (List UInt8)) (h : ∀ s ∈ l, s.length ≤ 60000) : ∀ (cut : Nat), cut ≤ (frames l).length → ∃ k, k ≤ l.length ∧ (scan ((frames l).take cut)).1 = l.take k := by
  induction l with
  | nil => intro cut hc; exact ⟨0, Nat.le_refl _, by rw [show ((frames []).take cut) = [] from by simp [frames], scan_short _ (by simp)]; rfl⟩
  | cons s l ih =>
    intro cut hc
    have hs := h s (by simp)
    have e : frames (s :: l) = frame s ++ frames l := rfl
    have hfl := frame_length s
    by_cases hcut : (frame s).length ≤ cut
    · obtain ⟨k, hk, hr⟩ := ih (fun t ht => h t (by simp [ht])) (cut - (frame s).length) (by rw [e, List.length_append] at hc; omega)
      refine ⟨k + 1, by simp; exact hk, ?_⟩
      rw [e, List.take_append, List.take_of_length_le hcut, scan_frame _ _ hs]
      show s :: _ = s :: l.take k
      rw [hr]
    · refine ⟨0, Nat.zero_le _, ?_⟩
      rw [e, List.take_append_of_le_length (by omega), scan_stop]
      · rfl
      · intro q
        have h8 := q.1
        have h3 := q.2.2.1
        rw [List.length_take] at h8 h3
        have hn : num ((frame s).take cut) = s.length := by
          unfold frame
          rw [List.append_assoc, List.take_append, List.take_of_length_le (by rw [four_length]; omega)]
          exact num_four _ (by omega) _
        rw [hn] at h3
        omega

end Go.Proofs.YtncpeaamfmfcgaaGreat.Sum
