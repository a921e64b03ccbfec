/- A store's disk, as plain lists of files. -/
import Derived.Test.YtncpeaamfmfcgaaGreatSnapSteps
namespace Go.Proofs.YtncpeaamfmfcgaaGreat
open Go.RowKit Go.Proofs.YtncpeaamfmfcgaaGreat.Sum

/-! The names of a store's files: which number stands in which name; which are old. Plain lists. -/

theorem dig_isDig {k : Nat} (h : k < 10) : isDig (UInt8.ofNat (48 + k)) = true := by
  unfold isDig
  rw [UInt8.toNat_ofNat', Nat.mod_eq_of_lt (by omega)]
  exact decide_eq_true (by omega)
theorem digs_all (n : Nat) : (digs n).all isDig = true := by
  induction n using Nat.strongRecOn with
  | ind n ih =>
    by_cases h : n < 10
    · rw [digs_small h, List.all_cons, dig_isDig h]; rfl
    · rw [digs_big h, List.all_append, ih (n / 10) (by omega), List.all_cons, dig_isDig (Nat.mod_lt n (by omega))]; rfl
theorem digs_val (n : Nat) : valD (digs n) = n := by
  induction n using Nat.strongRecOn with
  | ind n ih =>
    by_cases h : n < 10
    · rw [digs_small h]
      show 10 * 0 + ((UInt8.ofNat (48 + n)).toNat - 48) = n
      rw [UInt8.toNat_ofNat', Nat.mod_eq_of_lt (by omega)]; omega
    · rw [digs_big h, valD_snoc, ih (n / 10) (by omega), UInt8.toNat_ofNat', Nat.mod_eq_of_lt (by omega)]; omega
theorem digs_head (n : Nat) : ∃ c t, digs n = c :: t ∧ isDig c = true ∧ (c = 48 → n = 0) := by
  induction n using Nat.strongRecOn with
  | ind n ih =>
    by_cases h : n < 10
    · refine ⟨_, [], digs_small h, dig_isDig h, fun h0 => ?_⟩
      have := congrArg UInt8.toNat h0
      rw [UInt8.toNat_ofNat', Nat.mod_eq_of_lt (by omega)] at this
      have e : (48 : UInt8).toNat = 48 := rfl
      omega
    · obtain ⟨c, t, h1, h2, h3⟩ := ih (n / 10) (by omega)
      refine ⟨c, t ++ [UInt8.ofNat (48 + n % 10)], by rw [digs_big h, h1]; rfl, h2, fun h0 => ?_⟩
      have := h3 h0
      omega
theorem digs_last (n : Nat) : ∃ p c, digs n = p ++ [c] ∧ isDig c = true := by
  by_cases h : n < 10
  · exact ⟨[], _, digs_small h, dig_isDig h⟩
  · exact ⟨_, _, digs_big h, dig_isDig (Nat.mod_lt n (by omega))⟩
theorem digs_zero : digs 0 = [48] := digs_small (by omega)
theorem numDigits_digs {n : Nat} (h : n ≤ 1000000) : numDigits (digs n) false = some n := by
  unfold numDigits
  rw [if_neg, if_pos (digs_all n), digs_val]
  rintro (h1 | h1 | ⟨h1, h2 | h2⟩)
  · have := digs_pos n; rw [h1] at this; simp at this
  · have := digs_short h; omega
  · obtain ⟨c, t, hd, -, h0⟩ := digs_head n
    rw [hd, List.head?_cons, Option.some.injEq] at h1
    rw [h0 h1, digs_zero] at h2
    simp at h2
  · cases h2

/-! ### Prefixes -/
theorem hasPrefix_app (p x : List UInt8) : Lib.hasPrefix (p ++ x) p = true := by
  unfold Lib.hasPrefix
  rw [List.isPrefixOf_iff_prefix]; exact List.prefix_append _ _
theorem trimPrefix_app (p x : List UInt8) : Lib.trimPrefix (p ++ x) p = x := by
  unfold Lib.trimPrefix
  rw [if_pos (hasPrefix_app p x), List.drop_left]
theorem hasPrefix_ne {p x y : List UInt8} {a b : UInt8} (h : a ≠ b) : Lib.hasPrefix (p ++ [46, a] ++ x) (p ++ [46, b] ++ y) = false := by
  unfold Lib.hasPrefix
  rw [Bool.eq_false_iff]
  intro hp
  obtain ⟨z, hz⟩ := List.isPrefixOf_iff_prefix.1 hp
  rw [List.append_assoc, List.append_assoc, List.append_assoc] at hz
  have h1 := List.append_cancel_left hz
  simp only [List.cons_append, List.nil_append, List.cons.injEq, true_and] at h1
  exact h h1.1.symm
theorem noMinus (n : Nat) : Lib.hasPrefix (digs n) [45] = false ∧ Lib.trimPrefix (digs n) [45] = digs n := by
  obtain ⟨c, t, h1, h2, -⟩ := digs_head n
  have hp : Lib.hasPrefix (digs n) [45] = false := by
    rw [h1]
    unfold Lib.hasPrefix
    rw [Bool.eq_false_iff]
    intro hp
    obtain ⟨z, hz⟩ := List.isPrefixOf_iff_prefix.1 hp
    simp only [List.cons_append, List.nil_append, List.cons.injEq] at hz
    rw [← hz.1] at h2
    revert h2; decide
  refine ⟨hp, ?_⟩
  unfold Lib.trimPrefix
  rw [hp]; rfl
theorem numIn_hit (p : List UInt8) {n : Nat} (h : n ≤ 1000000) : numIn (p ++ digs n) p = some n := by
  unfold numIn
  rw [if_pos (hasPrefix_app p _), trimPrefix_app, (noMinus n).1, (noMinus n).2, numDigits_digs h]
  rfl
theorem numIn_miss {l p : List UInt8} (h : Lib.hasPrefix l p = false) : numIn l p = none := by unfold numIn; rw [h]; rfl

/-! ### The names -/
theorem pic_list (dir : ByteArray) (n : Nat) : (picName dir n).data.toList = dir.data.toList ++ [46, 115] ++ digs n := by
  unfold picName; rw [ByteArray.data_append, ByteArray.data_append]; simp
theorem log_list (dir : ByteArray) (n : Nat) : (logName dir n).data.toList = dir.data.toList ++ [46, 108] ++ digs n := by
  unfold logName; rw [ByteArray.data_append, ByteArray.data_append]; simp
theorem work_list (dir : ByteArray) : (workName dir).data.toList = dir.data.toList ++ [46, 116] := by
  unfold workName; rw [ByteArray.data_append]; simp
theorem headS_list (dir : ByteArray) : (dir ++ ⟨#[46, 115]⟩ : ByteArray).data.toList = dir.data.toList ++ [46, 115] := by rw [ByteArray.data_append]; simp
theorem headL_list (dir : ByteArray) : (dir ++ ⟨#[46, 108]⟩ : ByteArray).data.toList = dir.data.toList ++ [46, 108] := by rw [ByteArray.data_append]; simp
theorem spare_list (dir : ByteArray) (n : Nat) : (spareOf (logName dir n)).data.toList = dir.data.toList ++ [46, 108] ++ (digs n ++ [126]) := by
  unfold spareOf; rw [ByteArray.data_append, Array.toList_append, log_list]; simp

section
variable (dir : ByteArray) {n : Nat}
theorem picIn_pic (h : n ≤ 1000000) : numIn (picName dir n).data.toList (dir ++ ⟨#[46, 115]⟩).data.toList = some n := by rw [pic_list, headS_list]; exact numIn_hit _ h
theorem picIn_log : numIn (logName dir n).data.toList (dir ++ ⟨#[46, 115]⟩).data.toList = none := by
  rw [log_list, headS_list]; exact numIn_miss (by have := hasPrefix_ne (p := dir.data.toList) (x := digs n) (y := []) (show (108 : UInt8) ≠ 115 by decide); rwa [List.append_nil] at this)
theorem picIn_work : numIn (workName dir).data.toList (dir ++ ⟨#[46, 115]⟩).data.toList = none := by
  rw [work_list, headS_list]; exact numIn_miss (by have := hasPrefix_ne (p := dir.data.toList) (x := []) (y := []) (show (116 : UInt8) ≠ 115 by decide); rwa [List.append_nil, List.append_nil] at this)
theorem logIn_work : numIn (workName dir).data.toList (dir ++ ⟨#[46, 108]⟩).data.toList = none := by
  rw [work_list, headL_list]; exact numIn_miss (by have := hasPrefix_ne (p := dir.data.toList) (x := []) (y := []) (show (116 : UInt8) ≠ 108 by decide); rwa [List.append_nil, List.append_nil] at this)
theorem logIn_log (h : n ≤ 1000000) : numIn (logName dir n).data.toList (dir ++ ⟨#[46, 108]⟩).data.toList = some n := by rw [log_list, headL_list]; exact numIn_hit _ h

theorem noSuffix {l : List UInt8} {p : List UInt8} {c : UInt8} (h : l = p ++ [c]) (hc : c ≠ 126) : Lib.hasSuffix l [126] = false ∧ Lib.trimSuffix l [126] = l := by
  have hs : Lib.hasSuffix l [126] = false := by
    unfold Lib.hasSuffix
    rw [Bool.eq_false_iff]
    intro hp
    obtain ⟨z, hz⟩ := List.isSuffixOf_iff_suffix.1 hp
    rw [h] at hz
    have := (List.append_inj' hz rfl).2
    simp only [List.cons.injEq, and_true] at this
    exact hc this.symm
  refine ⟨hs, ?_⟩
  unfold Lib.trimSuffix
  rw [hs]; rfl

theorem old_pic (r : Nat) (h : n ≤ 1000000) : oldB dir r (picName dir n) = (!decide (n = r) || decide (n = 0)) := by
  unfold oldB; rw [picIn_pic dir h]
theorem old_log (r : Nat) (h : n ≤ 1000000) : oldB dir r (logName dir n) = !decide (n = r) := by
  obtain ⟨p, c, h1, h2⟩ := digs_last n
  have hns := noSuffix (l := (logName dir n).data.toList) (p := dir.data.toList ++ [46, 108] ++ p) (c := c) (by rw [log_list, h1, List.append_assoc _ p]) (by rintro rfl; revert h2; decide)
  unfold oldB
  rw [picIn_log dir]
  simp only
  rw [hns.2, logIn_log dir h, hns.1]
  rfl
theorem old_work (r : Nat) : oldB dir r (workName dir) = true := by
  have hns := noSuffix (l := (workName dir).data.toList) (p := dir.data.toList ++ [46]) (c := 116) (by rw [work_list, List.append_assoc]; rfl) (by decide)
  unfold oldB
  rw [picIn_work dir]
  simp only
  rw [hns.2, logIn_work dir]
  simp
end

section
variable {dir : ByteArray} {n k : Nat}
theorem pic_ne_log : picName dir n ≠ logName dir k := by
  intro h
  have := congrArg (fun s : ByteArray => s.data.toList) h
  rw [pic_list, log_list, List.append_assoc, List.append_assoc] at this
  have := List.append_cancel_left this
  simp at this
theorem pic_ne_work : picName dir n ≠ workName dir := by
  intro h
  have := congrArg (fun s : ByteArray => s.data.toList) h
  rw [pic_list, work_list, List.append_assoc] at this
  have := List.append_cancel_left this
  simp at this
theorem log_ne_work : logName dir n ≠ workName dir := by
  intro h
  have := congrArg (fun s : ByteArray => s.data.toList) h
  rw [log_list, work_list, List.append_assoc] at this
  have := List.append_cancel_left this
  simp at this
theorem pic_ne_spare : picName dir n ≠ spareOf (logName dir k) := by
  intro h
  have := congrArg (fun s : ByteArray => s.data.toList) h
  rw [pic_list, spare_list, List.append_assoc, List.append_assoc] at this
  have := List.append_cancel_left this
  simp at this
theorem work_ne_spare : workName dir ≠ spareOf (logName dir k) := by
  intro h
  have := congrArg (fun s : ByteArray => s.data.toList) h
  rw [work_list, spare_list, List.append_assoc] at this
  have := List.append_cancel_left this
  simp at this
theorem log_ne_spare : logName dir n ≠ spareOf (logName dir k) := by
  intro h
  have := congrArg (fun s : ByteArray => s.data.toList) h
  rw [log_list, spare_list] at this
  have := List.append_cancel_left this
  have h1 := digs_all n
  rw [this, List.all_append] at h1
  have h2 := (Bool.and_eq_true _ _).mp h1
  revert h2; simp [isDig]
theorem pic_inj (hn : n ≤ 1000000) (hk : k ≤ 1000000) (h : n ≠ k) : picName dir n ≠ picName dir k := by
  intro e
  have h1 := picIn_pic dir hn
  rw [e, picIn_pic dir hk] at h1
  exact h (Option.some.inj h1).symm
theorem log_inj (hn : n ≤ 1000000) (hk : k ≤ 1000000) (h : n ≠ k) : logName dir n ≠ logName dir k := by
  intro e
  have h1 := logIn_log dir hn
  rw [e, logIn_log dir hk] at h1
  exact h (Option.some.inj h1).symm
/-- What bounds a name here. -/
theorem name_valid (hd : dir.size ≤ 20) (hn : n ≤ 1000000) : validB (picName dir n) = true ∧ validB (logName dir n) = true ∧ validB (workName dir) = true ∧ validB (spareOf (logName dir n)) = true ∧ (logName dir n).size ≤ 39 := by
  have h1 := dig_size hn
  have hp : (picName dir n).size = dir.size + 2 + (⟨(digs n).toArray⟩ : ByteArray).size := by unfold picName; rw [ByteArray.size_append, ByteArray.size_append]; rfl
  have hl : (logName dir n).size = dir.size + 2 + (⟨(digs n).toArray⟩ : ByteArray).size := by unfold logName; rw [ByteArray.size_append, ByteArray.size_append]; rfl
  have hw : (workName dir).size = dir.size + 2 := by unfold workName; rw [ByteArray.size_append]; rfl
  have hs : (spareOf (logName dir n)).size = (logName dir n).size + 1 := by unfold spareOf; rw [ByteArray.size_append]; rfl
  exact ⟨decide_eq_true (by omega), decide_eq_true (by omega), decide_eq_true (by omega), decide_eq_true (by omega), by omega⟩
end

/-! ### The round -/
theorem findRound_ge (dir : ByteArray) (l : List ByteArray) : ∀ r, r ≤ findRound dir r l := by
  induction l with
  | nil => intro r; exact Nat.le_refl _
  | cons f l ih =>
    intro r
    refine Nat.le_trans ?_ (ih (picStep dir r f))
    unfold picStep
    split
    · split <;> omega
    · exact Nat.le_refl _
theorem findRound_eq (dir : ByteArray) (R : Nat) (l : List ByteArray) : ∀ r, r ≤ R → (∀ f ∈ l, ∀ k, numIn f.data.toList (dir ++ ⟨#[46, 115]⟩).data.toList = some k → k ≤ R) → (r = R ∨ ∃ f ∈ l, numIn f.data.toList (dir ++ ⟨#[46, 115]⟩).data.toList = some R) → findRound dir r l = R := by
  induction l with
  | nil =>
    intro r _ _ h
    rcases h with h | ⟨f, hf, -⟩
    · exact h
    · cases hf
  | cons f l ih =>
    intro r hr hle h
    have hstep : picStep dir r f ≤ R := by
      unfold picStep
      split
      · rename_i k hk
        have := hle f (by simp) k hk
        split <;> omega
      · exact hr
    refine ih (picStep dir r f) hstep (fun g hg => hle g (List.mem_cons_of_mem _ hg)) ?_
    rcases h with h | ⟨g, hg, hR⟩
    · left
      have : r ≤ picStep dir r f := by unfold picStep; split
                                       · split <;> omega
                                       · exact Nat.le_refl _
      omega
    · rcases List.mem_cons.1 hg with rfl | hg
      · left
        unfold picStep
        rw [hR]
        simp only
        split <;> omega
      · exact .inr ⟨g, hg, hR⟩
/-- The round of a disk, out of what its files are called. -/
theorem storeRound_eq {S : St} {dir : ByteArray} {R : Nat} (hle : ∀ f ∈ S.files, ∀ k, numIn f.name.data.toList (dir ++ ⟨#[46, 115]⟩).data.toList = some k → k ≤ R) (h : R = 0 ∨ ∃ f ∈ S.files, numIn f.name.data.toList (dir ++ ⟨#[46, 115]⟩).data.toList = some R) : S.storeRound dir = R := by
  have hmem : ∀ s, s ∈ namesOf S.files ↔ ∃ f ∈ S.files, f.name = s := fun s => by
    rw [mem_namesOf, has_names, List.mem_map]
  refine findRound_eq dir R _ 0 (Nat.zero_le _) (fun s hs k hk => ?_) ?_
  · obtain ⟨f, hf, rfl⟩ := (hmem s).1 hs
    exact hle f hf k hk
  · rcases h with h | ⟨f, hf, hR⟩
    · exact .inl h.symm
    · exact .inr ⟨f.name, (hmem _).2 ⟨f, hf, rfl⟩, hR⟩

/-! A store's disk, as a plain list of files: what one operation does to it, fuse or not. -/

theorem has_miss {l : List FE} {s : ByteArray} (h : ∀ f ∈ l, f.name ≠ s) : has l s = false := by
  unfold has
  rw [List.any_eq_false]
  intro f hf
  simpa using h f hf
theorem has_mid {p q : List FE} {f : FE} {s : ByteArray} (h : f.name = s) : has (p ++ f :: q) s = true := by
  unfold has
  rw [List.any_eq_true]
  exact ⟨f, by simp, decide_eq_true h⟩
theorem upd_last {A : List FE} {x : FE} {s : ByteArray} (g : FE → FE) (hA : ∀ f ∈ A, f.name ≠ s) (hx : x.name = s) : upd (A ++ [x]) s g = A ++ [g x] := upd_hit g hx hA (by simp)
theorem del_last {A : List FE} {x : FE} {s : ByteArray} (hA : ∀ f ∈ A, f.name ≠ s) (hx : x.name = s) : del (A ++ [x]) s = A := by
  have := del_hit (p := A) (q := []) hx hA (by simp)
  rwa [List.append_nil] at this

theorem fails_fused {S : St} (h : S.fails = true) : S.fused = true := by
  unfold St.fails at h
  exact ((Bool.and_eq_true _ _).mp h).1
theorem op_on {S : St} (h : S.on = true) : S.op.on = !S.fails := by
  show (S.on && !(S.fused && _)) = _
  rw [h]; rfl
theorem op_fused {S : St} (h : S.fused = false) : S.op.fused = false := by
  show (S.fused && _) = false
  rw [h]; rfl

/-- An operation halted the disk, its files being F, or it went well, and they are G. -/
def Ran (S : St) (o : Int × St) (F G : List FE) : Prop :=
  (o.1 = 14 ∧ o.2.on = false ∧ o.2.files = F ∧ S.fused = true) ∨ (o.1 = 0 ∧ o.2.on = true ∧ o.2.files = G ∧ (S.fused = false → o.2.fused = false))
theorem does_ran {S : St} {e : Int} {f : St → St} {G : List FE} (hon : S.on = true) (he : e = 0) (h1 : (f S.op).on = S.op.on) (h2 : (f S.op).fused = S.op.fused) (h3 : (f S.op).files = G) : Ran S (S.does e f) S.files G := by
  cases hf : S.fails
  · rw [does_ok hon hf he]
    exact .inr ⟨rfl, by rw [h1, op_on hon, hf]; rfl, h3, fun h => by rw [h2]; exact op_fused h⟩
  · rw [does_fails hon hf]
    exact .inl ⟨rfl, by show S.op.on = false; rw [op_on hon, hf]; rfl, rfl, fails_fused hf⟩

section
variable {S : St} {A : List FE} {t u x z : ByteArray} {y b : Nat}
theorem create_ran (hon : S.on = true) (hv : validB t = true) (hh : ∀ f ∈ S.files, f.name ≠ t) (hl : S.files.length < 40) : Ran S (S.create t) S.files (S.files ++ [⟨t, ByteArray.empty, 0, S.clock⟩]) :=
  does_ran hon (by unfold createErr; rw [hv, has_miss hh, if_pos rfl, if_neg (by decide), if_neg (by omega)]) rfl rfl rfl
theorem append_ran (hon : S.on = true) (hF : S.files = A ++ [⟨t, x, y, b⟩]) (hA : ∀ f ∈ A, f.name ≠ t) (hs : sizeAll S.files + z.size ≤ 400000) : Ran S (S.append t z) (A ++ [⟨t, x ++ z, y, b⟩]) (A ++ [⟨t, x ++ z, y, b⟩]) := by
  have he : appErr S t z = 0 := by unfold appErr; rw [hF, has_mid rfl, if_pos rfl, ← hF, if_pos hs]
  have hu : upd S.op.files t (appFE z) = A ++ [⟨t, x ++ z, y, b⟩] := by
    show upd S.files t (appFE z) = _
    rw [hF, upd_last _ hA rfl]; rfl
  have h1 : S.append t z = (if S.fails then 14 else 0, { S.op with files := upd S.op.files t (appFE z) }) := by
    unfold St.append
    rw [if_pos hon, he]
    cases S.fails <;> rfl
  rw [h1, hu]
  cases hf : S.fails
  · exact .inr ⟨rfl, by show S.op.on = true; rw [op_on hon, hf]; rfl, rfl, op_fused⟩
  · exact .inl ⟨rfl, by show S.op.on = false; rw [op_on hon, hf]; rfl, rfl, fails_fused hf⟩
theorem sync_ran (hon : S.on = true) (hF : S.files = A ++ [⟨t, x, y, b⟩]) (hA : ∀ f ∈ A, f.name ≠ t) : Ran S (S.sync t) S.files (A ++ [⟨t, x, x.size, b⟩]) :=
  does_ran hon (lackErr_true (by rw [hF]; exact has_mid rfl)) rfl rfl (by show upd S.files t syncFE = _; rw [hF, upd_last _ hA rfl]; rfl)
theorem rename_ran (hon : S.on = true) (hF : S.files = A ++ [⟨t, x, y, b⟩]) (hA : ∀ f ∈ A, f.name ≠ t) (hu : ∀ f ∈ A, f.name ≠ u) (hv : validB u = true) : Ran S (S.rename t u) S.files (A ++ [⟨u, x, y, S.clock⟩]) := by
  have hren : ren S.op t u = { S.op with files := A ++ [⟨u, x, y, S.clock⟩], clock := S.clock + 1 } := by
    unfold ren
    rw [show fileOf S.op.files t = some ⟨t, x, y, b⟩ by show fileOf S.files t = _; rw [hF]; exact fileOf_hit rfl hA]
    simp only
    rw [show del S.op.files t = A by show del S.files t = _; rw [hF]; exact del_last hA rfl]
    unfold moved
    rw [has_miss hu]
    rfl
  exact does_ran hon (by unfold renErr; rw [hF, has_mid rfl, if_pos rfl, if_pos hv]) (by rw [hren]) (by rw [hren]) (by rw [hren])
theorem remove_ran {p q : List FE} {f : FE} (hon : S.on = true) (hF : S.files = p ++ f :: q) (hp : ∀ x ∈ p, x.name ≠ f.name) (hq : ∀ x ∈ q, x.name ≠ f.name) : Ran S (S.remove f.name) S.files (p ++ q) :=
  does_ran hon (lackErr_true (by rw [hF]; exact has_mid rfl)) rfl rfl (by show del S.files f.name = _; rw [hF]; exact del_hit rfl hp hq)
theorem rmIf_none (h : ∀ f ∈ S.files, f.name ≠ t) : S.rmIf t = (0, S) := by unfold St.rmIf; rw [has_miss h]; rfl
theorem rmIf_some {p q : List FE} {f : FE} (hF : S.files = p ++ f :: q) : S.rmIf f.name = S.remove f.name := by unfold St.rmIf; rw [hF, has_mid rfl]; rfl
end
theorem runSteps_halt {f : St → Int × St} {fs : List (St → Int × St)} {S : St} (h : (f S).1 ≠ 0) : runSteps (f :: fs) S = f S := by
  show (if _ then _ else _) = _
  rw [if_neg h]

/-! What a Save does to a store's disk, fuse or not. -/

def layBA (state : ByteArray) : ByteArray := ⟨(layB state.data.toList).toArray⟩
theorem layBA_size (state : ByteArray) : (layBA state).size = (layB state.data.toList).length := by unfold layBA; rw [Lib.size_eq]
/-- A store's files: its picture, if there is one, and its log. -/
def PicL (dir : ByteArray) (r : Nat) (base : ByteArray) (P : List FE) : Prop := (P = [] ∧ r = 0 ∧ base = ⟨#[]⟩) ∨ (r ≠ 0 ∧ ∃ y b, P = [⟨picName dir r, layBA base, y, b⟩])
theorem PicL.names {dir base : ByteArray} {r : Nat} {P : List FE} (h : PicL dir r base P) : ∀ f ∈ P, f.name = picName dir r := by
  rcases h with ⟨rfl, -⟩ | ⟨-, y, b, rfl⟩
  · simp
  · intro f hf; obtain rfl := List.mem_singleton.1 hf; rfl
theorem PicL.len {dir base : ByteArray} {r : Nat} {P : List FE} (h : PicL dir r base P) : P.length ≤ 1 := by
  rcases h with ⟨rfl, -⟩ | ⟨-, y, b, rfl⟩ <;> simp

theorem n14 : (14 : Int) ≠ 0 := by decide
/-- What a halted Save has left. -/
def Halt (dir : ByteArray) (n : Nat) (state : ByteArray) (P : List FE) (lg : FE) (G : List FE) : Prop :=
  G = P ++ [lg] ∨ (∃ x y b, G = P ++ [lg] ++ [⟨workName dir, x, y, b⟩]) ∨ (∃ b, G = P ++ [lg] ++ [⟨picName dir n, layBA state, (layBA state).size, b⟩]) ∨
  (∃ b c, G = P ++ [lg] ++ [⟨picName dir n, layBA state, (layBA state).size, b⟩] ++ [⟨logName dir n, ByteArray.empty, 0, c⟩]) ∨
  (∃ b c, G = [lg] ++ [⟨picName dir n, layBA state, (layBA state).size, b⟩] ++ [⟨logName dir n, ByteArray.empty, 0, c⟩])

section
variable {S : St} {dir base state : ByteArray} {r n : Nat} {P : List FE} {lg : FE}
/-- The first five steps. -/
theorem saveA_run (hon : S.on = true) (hd : dir.size ≤ 20) (hn : n ≤ 1000000) (hF : S.files = P ++ [lg]) (hw : ∀ f ∈ S.files, f.name ≠ workName dir) (hp : ∀ f ∈ S.files, f.name ≠ picName dir n) (hl : S.files.length < 40) (hroom : sizeAll S.files + (layBA state).size ≤ 400000) :
    ((runSteps (savesA dir n state) S).1 = 14 ∧ (runSteps (savesA dir n state) S).2.on = false ∧ S.fused = true ∧ Halt dir n state P lg (runSteps (savesA dir n state) S).2.files) ∨
    ((runSteps (savesA dir n state) S).1 = 0 ∧ (runSteps (savesA dir n state) S).2.on = true ∧ (S.fused = false → (runSteps (savesA dir n state) S).2.fused = false) ∧ ∃ b, (runSteps (savesA dir n state) S).2.files = P ++ [lg] ++ [⟨picName dir n, layBA state, (layBA state).size, b⟩]) := by
  obtain ⟨hvp, -, hvw, -, -⟩ := name_valid hd hn
  have e0 : runSteps (savesA dir n state) S = runSteps [fun T => T.create (workName dir), fun T => T.append (workName dir) (layBA state), fun T => T.sync (workName dir), fun T => T.rename (workName dir) (picName dir n)] S := by
    refine (runSteps_cons (f := fun T => T.rmIf (workName dir)) (by show (S.rmIf _).1 = 0; rw [rmIf_none hw])).trans ?_
    show runSteps _ (S.rmIf _).2 = _
    rw [rmIf_none hw]; rfl
  rw [e0]
  rcases create_ran (t := workName dir) hon hvw hw hl with ⟨a1, a2, a3, a4⟩ | ⟨a1, a2, a3, a4⟩
  · rw [runSteps_halt (f := fun T => T.create (workName dir)) (by rw [a1]; decide)]
    exact .inl ⟨a1, a2, a4, .inl (a3.trans hF)⟩
  · rw [runSteps_cons (f := fun T => T.create (workName dir)) a1]
    generalize (S.create (workName dir)).2 = S1 at *
    have hz : sizeAll S1.files + (layBA state).size ≤ 400000 := by rw [a3, sizeAll_append]; simpa [sizeAll] using hroom
    rcases append_ran (z := layBA state) a2 a3 hw hz with ⟨b1, b2, b3, b4⟩ | ⟨b1, b2, b3, b4⟩
    · rw [runSteps_halt (f := fun T => T.append (workName dir) (layBA state)) (by rw [b1]; decide)]
      refine .inl ⟨b1, b2, ?_, .inr (.inl ⟨_, _, _, b3.trans (by rw [hF])⟩)⟩
      cases hf : S.fused
      · rw [a4 hf] at b4; cases b4
      · rfl
    · rw [runSteps_cons (f := fun T => T.append (workName dir) (layBA state)) b1]
      generalize (S1.append (workName dir) (layBA state)).2 = S2 at *
      rw [ByteArray.empty_append] at b3
      rcases sync_ran b2 b3 hw with ⟨c1, c2, c3, c4⟩ | ⟨c1, c2, c3, c4⟩
      · rw [runSteps_halt (f := fun T => T.sync (workName dir)) (by rw [c1]; decide)]
        refine .inl ⟨c1, c2, ?_, .inr (.inl ⟨_, _, _, (c3.trans b3).trans (by rw [hF])⟩)⟩
        cases hf : S.fused
        · rw [b4 (a4 hf)] at c4; cases c4
        · rfl
      · rw [runSteps_cons (f := fun T => T.sync (workName dir)) c1]
        generalize (S2.sync (workName dir)).2 = S3 at *
        rcases rename_ran c2 c3 hw hp hvp with ⟨d1, d2, d3, d4⟩ | ⟨d1, d2, d3, d4⟩
        · rw [runSteps_halt (f := fun T => T.rename (workName dir) (picName dir n)) (by rw [d1]; decide)]
          refine .inl ⟨d1, d2, ?_, .inr (.inl ⟨_, _, _, (d3.trans c3).trans (by rw [hF])⟩)⟩
          cases hf : S.fused
          · rw [c4 (b4 (a4 hf))] at d4; cases d4
          · rfl
        · rw [runSteps_cons (f := fun T => T.rename (workName dir) (picName dir n)) d1]
          exact .inr ⟨rfl, d2, fun hf => d4 (c4 (b4 (a4 hf))), _, d3.trans (by rw [hF])⟩

/-- A log that is not there yet is made. -/
theorem openLog_new {name : ByteArray} (hon : S.on = true) (hv : validB name = true) (hh : ∀ f ∈ S.files, f.name ≠ name) (hl : S.files.length < 40) :
    (∃ T, S.openLog name = (14, T, none) ∧ T.on = false ∧ T.files = S.files ∧ S.fused = true) ∨ (∃ T, S.openLog name = (0, T, some ⟨name, [], 0, 0, false⟩) ∧ T.on = true ∧ T.files = S.files ++ [⟨name, ByteArray.empty, 0, S.clock⟩] ∧ (S.fused = false → T.fused = false)) := by
  rcases create_ran hon hv hh hl with ⟨a1, a2, a3, a4⟩ | ⟨a1, a2, a3, a4⟩
  · refine .inl ⟨_, ?_, a2, a3, a4⟩
    unfold St.openLog
    rw [if_pos hon, if_neg (by rw [has_miss hh]; decide), if_neg (by rw [a1]; decide), a1]
  · refine .inr ⟨_, ?_, a2, a3, a4⟩
    unfold St.openLog
    rw [if_pos hon, if_neg (by rw [has_miss hh]; decide), if_pos a1]

/-- All steps of a Save. -/
theorem save_run (hO : S.Ok) (hon : S.on = true) (hd : dir.size ≤ 20) (hr : r ≤ 1000) (hn : n = r + 1) (hF : S.files = P ++ [lg]) (hlg : lg.name = logName dir r) (hP : PicL dir r base P) (hroom : sizeAll S.files + (layBA state).size ≤ 400000) :
    (∃ T b c, S.save dir r n state = (0, T, some ⟨logName dir n, [], 0, 0, false⟩) ∧ T.Ok ∧ T.on = true ∧ (S.fused = false → T.fused = false) ∧ T.files = [⟨picName dir n, layBA state, (layBA state).size, b⟩, ⟨logName dir n, ByteArray.empty, 0, c⟩]) ∨
    (∃ T, S.save dir r n state = (14, T, none) ∧ T.Ok ∧ T.on = false ∧ S.fused = true ∧ Halt dir n state P lg T.files) := by
  subst hn
  have hOk := hO.save dir r (r + 1) state
  obtain ⟨hvp, hvl, -⟩ := name_valid (dir := dir) (n := r + 1) hd (by omega)
  have hnames : ∀ f ∈ S.files, f.name = picName dir r ∨ f.name = logName dir r := by
    rw [hF]
    intro f hf
    rcases List.mem_append.1 hf with h | h
    · exact .inl (hP.names f h)
    · obtain rfl := List.mem_singleton.1 h; exact .inr hlg
  have hw : ∀ f ∈ S.files, f.name ≠ workName dir := fun f hf => by rcases hnames f hf with h | h <;> rw [h]; exact pic_ne_work; exact log_ne_work
  have hp : ∀ f ∈ S.files, f.name ≠ picName dir (r + 1) := fun f hf => by rcases hnames f hf with h | h <;> rw [h]; exact pic_inj (by omega) (by omega) (by omega); exact Ne.symm pic_ne_log
  have hl : ∀ f ∈ S.files, f.name ≠ logName dir (r + 1) := fun f hf => by rcases hnames f hf with h | h <;> rw [h]; exact pic_ne_log; exact log_inj (by omega) (by omega) (by omega)
  have hlen : S.files.length ≤ 2 := by rw [hF, List.length_append]; have := hP.len; simp; omega
  rcases saveA_run (n := r + 1) (state := state) hon hd (by omega) hF hw hp (by omega) hroom with ⟨a1, a2, a3, a4⟩ | ⟨a1, a2, a3, b, a4⟩
  · refine .inr ⟨_, ?_, ?_, a2, a3, a4⟩
    · unfold St.save; rw [if_neg (by rw [a1]; decide), a1]
    · have := hOk; unfold St.save at this; rw [if_neg (by rw [a1]; decide)] at this; exact this
  · have hsv : ∀ o, (runSteps (savesA dir (r + 1) state) S).2.openLog (logName dir (r + 1)) = o → S.save dir r (r + 1) state = match o.2.2 with
        | none => (o.1, o.2.1, none)
        | some L => if (runSteps (savesB dir r) o.2.1).1 = 0 then (0, (runSteps (savesB dir r) o.2.1).2, some L) else ((runSteps (savesB dir r) o.2.1).1, (runSteps (savesB dir r) o.2.1).2, none) := by
      rintro o rfl
      unfold St.save
      rw [if_pos a1]
      rfl
    generalize (runSteps (savesA dir (r + 1) state) S).2 = S5 at *
    have hl5 : ∀ f ∈ S5.files, f.name ≠ logName dir (r + 1) := by
      rw [a4, ← hF]
      intro f hf
      rcases List.mem_append.1 hf with h | h
      · exact hl f h
      · obtain rfl := List.mem_singleton.1 h; exact pic_ne_log
    rcases openLog_new a2 hvl hl5 (by rw [a4, ← hF, List.length_append]; simp; omega) with ⟨T, b1, b2, b3, b4⟩ | ⟨T, b1, b2, b3, b4⟩
    · have e := hsv _ b1
      simp only at e
      rw [e] at hOk
      refine .inr ⟨T, e, hOk, b2, ?_, .inr (.inr (.inl ⟨b, b3.trans a4⟩))⟩
      cases hf : S.fused
      · rw [a3 hf] at b4; cases b4
      · rfl
    · have e := hsv _ b1
      simp only at e
      rw [a4] at b3
      have hff : S.fused = false → T.fused = false := fun h => b4 (a3 h)
      -- the old picture goes, if there is one
      have hB1 : (∃ U, T.rmIf (picName dir r) = (14, U) ∧ U.on = false ∧ S.fused = true ∧ U.files = T.files) ∨ (∃ U, T.rmIf (picName dir r) = (0, U) ∧ U.on = true ∧ (S.fused = false → U.fused = false) ∧ U.files = [lg] ++ [⟨picName dir (r + 1), layBA state, (layBA state).size, b⟩] ++ [⟨logName dir (r + 1), ByteArray.empty, 0, S5.clock⟩]) := by
        rcases hP with ⟨rfl, hr0⟩ | ⟨hr0, y, b', rfl⟩
        · refine .inr ⟨T, rmIf_none ?_, b2, hff, by rw [b3]; rfl⟩
          rw [b3]
          intro f hf
          simp only [List.nil_append, List.cons_append, List.mem_cons, List.not_mem_nil, or_false] at hf
          rcases hf with rfl | rfl | rfl
          · rw [hlg]; exact Ne.symm pic_ne_log
          · exact pic_inj (by omega) (by omega) (by omega)
          · exact Ne.symm pic_ne_log
        · have hT : T.files = [] ++ (⟨picName dir r, layBA base, y, b'⟩ : FE) :: ([lg] ++ [⟨picName dir (r + 1), layBA state, (layBA state).size, b⟩] ++ [⟨logName dir (r + 1), ByteArray.empty, 0, S5.clock⟩]) := by rw [b3]; rfl
          rw [rmIf_some (f := ⟨picName dir r, layBA base, y, b'⟩) hT]
          rcases remove_ran b2 hT (by simp) (by
            intro f hf
            simp only [List.cons_append, List.nil_append, List.mem_cons, List.not_mem_nil, or_false] at hf
            rcases hf with rfl | rfl | rfl
            · rw [hlg]; exact Ne.symm pic_ne_log
            · exact pic_inj (by omega) (by omega) (by omega)
            · exact Ne.symm pic_ne_log) with ⟨c1, c2, c3, c4⟩ | ⟨c1, c2, c3, c4⟩
          · refine .inl ⟨_, Prod.ext c1 rfl, c2, ?_, c3⟩
            cases hf : S.fused
            · rw [hff hf] at c4; cases c4
            · rfl
          · exact .inr ⟨_, Prod.ext c1 rfl, c2, fun h => c4 (hff h), c3⟩
      rcases hB1 with ⟨U, c1, c2, c3, c4⟩ | ⟨U, c1, c2, c3, c4⟩
      · have eB : runSteps (savesB dir r) T = (14, U) := (runSteps_halt (f := fun T => T.rmIf (picName dir r)) (by show (T.rmIf _).1 ≠ 0; rw [c1]; exact n14)).trans c1
        rw [eB, if_neg n14] at e
        rw [e] at hOk
        exact .inr ⟨U, e, hOk, c2, c3, .inr (.inr (.inr (.inl ⟨b, _, c4.trans b3⟩)))⟩
      · have eB : runSteps (savesB dir r) T = runSteps [fun T => T.rmIf (logName dir r)] U := (runSteps_cons (f := fun T => T.rmIf (picName dir r)) (by show (T.rmIf _).1 = 0; rw [c1])).trans (by show runSteps _ (T.rmIf _).2 = _; rw [c1])
        have hU : U.files = [] ++ lg :: ([⟨picName dir (r + 1), layBA state, (layBA state).size, b⟩] ++ [⟨logName dir (r + 1), ByteArray.empty, 0, S5.clock⟩]) := by rw [c4]; rfl
        have hrm := rmIf_some hU
        rw [hlg] at hrm
        rcases remove_ran c2 hU (by simp) (by
          intro f hf
          simp only [List.cons_append, List.nil_append, List.mem_cons, List.not_mem_nil, or_false] at hf
          rcases hf with rfl | rfl
          · rw [hlg]; exact pic_ne_log
          · rw [hlg]; exact log_inj (by omega) (by omega) (by omega)) with ⟨d1, d2, d3, d4⟩ | ⟨d1, d2, d3, d4⟩
        · rw [hlg] at d1 d2 d3
          have eC : runSteps [fun T => T.rmIf (logName dir r)] U = (14, (U.remove (logName dir r)).2) := (runSteps_halt (f := fun T => T.rmIf (logName dir r)) (by show (U.rmIf _).1 ≠ 0; rw [hrm, d1]; decide)).trans (by show U.rmIf _ = _; rw [hrm]; exact Prod.ext d1 rfl)
          rw [eB, eC, if_neg n14] at e
          rw [e] at hOk
          refine .inr ⟨_, e, hOk, d2, ?_, .inr (.inr (.inr (.inr ⟨b, _, d3.trans c4⟩)))⟩
          cases hf : S.fused
          · rw [c3 hf] at d4; cases d4
          · rfl
        · rw [hlg] at d1 d2 d3 d4
          have eC : runSteps [fun T => T.rmIf (logName dir r)] U = (0, (U.remove (logName dir r)).2) := (runSteps_cons (f := fun T => T.rmIf (logName dir r)) (by show (U.rmIf _).1 = 0; rw [hrm, d1])).trans (by show (0, (U.rmIf _).2) = _; rw [hrm])
          rw [eB, eC, if_pos rfl] at e
          rw [e] at hOk
          exact .inl ⟨_, b, _, e, hOk, d2, fun h => d4 (c3 h), d3⟩
end

/-! A store is opened anew: what is there then. Plain lists of files. -/

theorem ran_calm {S : St} {o : Int × St} {F G : List FE} (h : Ran S o F G) (hc : Calm S) : o.1 = 0 ∧ Calm o.2 ∧ o.2.files = G := by
  rcases h with ⟨-, -, -, h4⟩ | ⟨h1, h2, h3, h4⟩
  · rw [hc.fused] at h4; cases h4
  · exact ⟨h1, ⟨h2, h4 hc.fused⟩, h3⟩

section
variable {S : St} {dir base : ByteArray} {r : Nat} {P : List FE} {gs : List (List (List UInt8))} {name data : ByteArray} {sy b : Nat}
theorem read_last (hF : S.files = P ++ [⟨name, data, sy, b⟩]) (hP : ∀ f ∈ P, f.name ≠ name) : has S.files name = true ∧ readData S.files name = data := by
  refine ⟨by rw [hF]; exact has_mid rfl, ?_⟩
  unfold readData
  rw [hF, fileOf_hit rfl hP]

theorem rename_over (hc : Calm S) {t x : ByteArray} {y c : Nat} (hF : S.files = P ++ [⟨name, data, sy, b⟩] ++ [⟨t, x, y, c⟩]) (hP : ∀ f ∈ P, f.name ≠ name) (ht : ∀ f ∈ P ++ [⟨name, data, sy, b⟩], f.name ≠ t) (hv : validB name = true) :
    (S.rename t name).1 = 0 ∧ Calm (S.rename t name).2 ∧ (S.rename t name).2.files = P ++ [⟨name, x, y, b⟩] := by
  have hren : ren S.op t name = { S.op with files := P ++ [⟨name, x, y, b⟩] } := by
    unfold ren
    rw [show fileOf S.op.files t = some ⟨t, x, y, c⟩ by show fileOf S.files t = _; rw [hF]; exact fileOf_hit rfl ht]
    simp only
    rw [show del S.op.files t = P ++ [⟨name, data, sy, b⟩] by show del S.files t = _; rw [hF]; exact del_last ht rfl]
    unfold moved
    rw [has_mid rfl, if_pos rfl, upd_last _ hP rfl]
  have hran : Ran S (S.rename t name) S.files (P ++ [⟨name, x, y, b⟩]) :=
    does_ran hc.on (by unfold renErr; rw [hF, has_mid rfl, if_pos rfl, if_pos hv]) (by rw [hren]) (by rw [hren]) (by rw [hren])
  exact ran_calm hran hc

theorem mend_run (hc : Calm S) (part : ByteArray) (hF : S.files = P ++ [⟨name, data, sy, b⟩]) (hP : ∀ f ∈ P, f.name ≠ name) (hs : ∀ f ∈ P, f.name ≠ spareOf name) (hv : validB name = true) (hvs : validB (spareOf name) = true) (hl : P.length ≤ 30) (hz : sizeAll S.files + part.size ≤ 400000) :
    (S.mend name part).1 = 0 ∧ Calm (S.mend name part).2 ∧ (S.mend name part).2.files = P ++ [⟨name, part, part.size, b⟩] := by
  have hns : ∀ f ∈ S.files, f.name ≠ spareOf name := by
    rw [hF]
    intro f hf
    rcases List.mem_append.1 hf with h | h
    · exact hs f h
    · obtain rfl := List.mem_singleton.1 h; exact spare_ne name
  obtain ⟨a1, a2, a3⟩ := ran_calm (create_ran hc.on hvs hns (by rw [hF, List.length_append]; simp; omega)) hc
  obtain ⟨b1, b2, b3⟩ := ran_calm (append_ran (z := part) a2.on a3 hns (by rw [a3, sizeAll_append]; simpa [sizeAll] using hz)) a2
  rw [ByteArray.empty_append] at b3
  obtain ⟨c1, c2, c3⟩ := ran_calm (sync_ran b2.on b3 hns) b2
  rw [hF] at c3
  obtain ⟨d1, d2, d3⟩ := rename_over c2 c3 hP (by rw [← hF]; exact hns) hv
  have e : S.mend name part = ((((S.create (spareOf name)).2.append (spareOf name) part).2.sync (spareOf name)).2.rename (spareOf name) name) := by
    unfold St.mend
    refine (runSteps_cons (by show (S.rmIf (spareOf name)).1 = 0; rw [rmIf_none hns])).trans ?_
    show runSteps _ (S.rmIf (spareOf name)).2 = _
    rw [rmIf_none hns]
    refine (runSteps_cons (f := fun T => T.create (spareOf name)) a1).trans ?_
    refine (runSteps_cons (f := fun T => T.append (spareOf name) part) b1).trans ?_
    refine (runSteps_cons (f := fun T => T.sync (spareOf name)) c1).trans ?_
    refine (runSteps_cons (f := fun T => T.rename (spareOf name) name) d1).trans ?_
    exact Prod.ext d1.symm rfl
  rw [e]
  exact ⟨d1, d2, d3⟩

/-- A log that is the last file: opened, there are just its groups. -/
theorem openLog_last {t : List UInt8} (hc : Calm S) (hF : S.files = P ++ [⟨name, bytesOf gs ++ ⟨t.toArray⟩, sy, b⟩]) (hP : ∀ f ∈ P, f.name ≠ name) (hs : ∀ f ∈ P, f.name ≠ spareOf name) (hv : validB name = true) (hvs : validB (spareOf name) = true) (hl : P.length ≤ 30)
    (hg : goodOf (logBytes gs ++ t) = (gs.flatten, gs.length, (logBytes gs).length)) (hz : sizeAll S.files + (logBytes gs).length ≤ 400000) :
    ∃ T sy', S.openLog name = (0, T, some (logOf name gs)) ∧ Calm T ∧ T.files = P ++ [⟨name, bytesOf gs, sy', b⟩] := by
  have hdat : (bytesOf gs ++ ⟨t.toArray⟩ : ByteArray).data.toList = logBytes gs ++ t := by rw [ByteArray.data_append]; simp [bytesOf]
  have hsz : (bytesOf gs ++ ⟨t.toArray⟩ : ByteArray).size = (logBytes gs).length + t.length := by rw [Lib.size_eq, hdat, List.length_append]
  obtain ⟨h1, h2⟩ := read_last hF hP
  by_cases ht : t = []
  · subst ht
    have he : (bytesOf gs ++ ⟨([] : List UInt8).toArray⟩ : ByteArray) = bytesOf gs := by rw [show (⟨([] : List UInt8).toArray⟩ : ByteArray) = ByteArray.empty from rfl, ByteArray.append_empty]
    refine ⟨S, sy, ?_, hc, by rw [hF, he]⟩
    unfold St.openLog
    rw [if_pos hc.on, if_pos h1, h2, hdat, hg, hsz, if_neg (by simp)]
    rfl
  · have htl : 0 < t.length := List.length_pos_iff.2 ht
    obtain ⟨m1, m2, m3⟩ := mend_run (part := bytesOf gs) hc hF hP hs hv hvs hl (by rw [bytesOf_size]; exact hz)
    refine ⟨(S.mend name (bytesOf gs)).2, _, ?_, m2, m3⟩
    unfold St.openLog
    rw [if_pos hc.on, if_pos h1, h2, hdat, hg, hsz, if_pos (by show (logBytes gs).length < _; omega), extract_bytes, if_pos m1]
    rfl
/-- A log that stands anywhere, with nothing behind its groups. -/
theorem openLog_there (hc : S.on = true) (hh : has S.files name = true) (hd : readData S.files name = bytesOf gs) (hf : ∀ x ∈ gs, Fits x) : S.openLog name = (0, S, some (logOf name gs)) := by
  have hg := good_all gs hf
  unfold St.openLog
  rw [if_pos hc, if_pos hh, hd, show (bytesOf gs).data.toList = logBytes gs by simp [bytesOf], hg, bytesOf_size, if_neg (by simp)]
  rfl

theorem namesOf_nodup {l : List FE} (h : Apart l) : (namesOf l).Nodup := by
  unfold namesOf keysOf
  refine List.Pairwise.map _ (fun a b hab q => hab ?_) ((List.Perm.nodup_iff (List.mergeSort_perm _ _)).2 (List.Pairwise.map _ (fun f g hfg q => hfg ?_) h))
  · have := congrArg (fun s : ByteArray => s.data.toList) q
    simpa using this
  · exact ByteArray.ext (Array.toList_inj.1 q)

def inL (l : List ByteArray) (s : ByteArray) : Bool := l.any fun x => decide (s = x)
/-- On a calm disk all old files go. -/
theorem cleanGo_run (dir : ByteArray) (r : Nat) : ∀ (l : List ByteArray) (S : St), l.Nodup → (∀ s ∈ l, has S.files s = true) → S.Ok → Calm S →
    ∃ T, cleanGo dir r l S = (0, T) ∧ T.Ok ∧ Calm T ∧ T.files = S.files.filter fun f => !(inL l f.name && oldB dir r f.name)
  | [], S, _, _, hO, hc => ⟨S, rfl, hO, hc, (List.filter_eq_self.2 (by simp [inL])).symm⟩
  | s :: l, S, hn, hh, hO, hc => by
    obtain ⟨hs, hn'⟩ := List.nodup_cons.1 hn
    cases hold : oldB dir r s
    · obtain ⟨T, h1, h2, h3, h4⟩ := cleanGo_run dir r l S hn' (fun x hx => hh x (List.mem_cons_of_mem _ hx)) hO hc
      refine ⟨T, ?_, h2, h3, ?_⟩
      · unfold cleanGo; rw [hold]; exact h1
      · rw [h4]
        refine List.filter_congr fun f _ => ?_
        by_cases hfs : f.name = s
        · rw [hfs, hold]; simp
        · simp [inL, hfs]
    · have hrm : S.remove s = (0, { S.op with files := del S.op.files s }) := does_ok hc.on hc.fails (lackErr_true (hh s (by simp)))
      have hO1 := hO.remove s
      rw [hrm] at hO1
      have hc1 : Calm { S.op with files := del S.op.files s } := ⟨hc.op.on, hc.op.fused⟩
      obtain ⟨T, h1, h2, h3, h4⟩ := cleanGo_run dir r l _ hn' (fun x hx => by
        have hx1 := hh x (List.mem_cons_of_mem _ hx)
        have hxs : x ≠ s := fun q => hs (q ▸ hx)
        show has (del S.files s) x = true
        rw [has_names, List.mem_map] at hx1 ⊢
        obtain ⟨f, hf, rfl⟩ := hx1
        exact ⟨f, List.mem_filter.2 ⟨hf, by simpa using hxs⟩, rfl⟩) hO1 hc1
      refine ⟨T, ?_, h2, h3, ?_⟩
      · unfold cleanGo
        rw [hold, hrm]
        exact h1
      · rw [h4]
        show (S.files.filter _).filter _ = _
        rw [List.filter_filter]
        refine List.filter_congr fun f _ => ?_
        by_cases hfs : f.name = s
        · rw [hfs, hold]; simp [inL]
        · simp [inL, hfs]
theorem clean_run (dir : ByteArray) (r : Nat) (hO : S.Ok) (hc : Calm S) : ∃ T, S.clean dir r = (0, T) ∧ T.Ok ∧ Calm T ∧ T.files = S.files.filter fun f => !oldB dir r f.name := by
  obtain ⟨T, h1, h2, h3, h4⟩ := cleanGo_run dir r (namesOf S.files) S (namesOf_nodup hO.apart) (fun s hs => (mem_namesOf _ _).1 hs) hO hc
  refine ⟨T, h1, h2, h3, h4.trans (List.filter_congr fun f hf => ?_)⟩
  have hm : f.name ∈ namesOf S.files := (mem_namesOf _ _).2 (by rw [has_names]; exact List.mem_map.2 ⟨f, hf, rfl⟩)
  have : inL (namesOf S.files) f.name = true := List.any_eq_true.2 ⟨f.name, hm, decide_eq_true rfl⟩
  rw [this, Bool.true_and]

/-- What an open comes to, once the round is known. -/
theorem openStore_run {T : St} {L : LSt} (hO : S.Ok) (hc : Calm S) (hd : 1 ≤ dir.size ∧ dir.size ≤ 20) (hR : S.storeRound dir = r) (hbs : base.size ≤ 1000000)
    (hp : (r = 0 ∧ base = ⟨#[]⟩) ∨ (r ≠ 0 ∧ has S.files (picName dir r) = true ∧ readData S.files (picName dir r) = layBA base)) (hl : S.openLog (logName dir r) = (0, T, some L)) (hT : Calm T) :
    ∃ U, S.openStore dir = (0, U, some (r, base, L)) ∧ U.Ok ∧ Calm U ∧ U.files = T.files.filter fun f => !oldB dir r f.name := by
  have hTO : T.Ok := by have := openLog_ok hO (logName dir r); rw [hl] at this; exact this
  obtain ⟨U, h1, h2, h3, h4⟩ := clean_run dir r hTO hT
  have hrest : ∀ x, S.openRest dir r x = (0, U, some (r, x, L)) := fun x => by
    unfold St.openRest
    rw [hl]
    simp only
    rw [h1]
    rfl
  refine ⟨U, ?_, h2, h3, h4⟩
  unfold St.openStore
  rw [hR, if_neg (by omega)]
  rcases hp with ⟨rfl, rfl⟩ | ⟨hr0, hh, hrd⟩
  · rw [if_pos rfl, hrest]
  · have hrb := readB_layB (l := base.data.toList) (by rw [← Lib.size_eq]; exact hbs)
    have hlb : (layBA base).data.toList = layB base.data.toList := by simp [layBA]
    rw [if_neg hr0, if_neg (by rw [hc.on]; decide), if_neg (by rw [hh]; decide), hrd, hlb, hrb, if_pos rfl, hrest]
end

/-! What an open finds: a store as it was, or what a halted Save has left. -/

theorem filter_one {f : FE} {p : FE → Bool} (h : p f = true) : [f].filter p = [f] := List.filter_cons_of_pos h
theorem filter_none {f : FE} {p : FE → Bool} (h : p f = false) : [f].filter p = [] := List.filter_cons_of_neg (by rw [h]; decide)
/-- A disk that has just a store's files. -/
structure Kept (S : St) (dir : ByteArray) (r : Nat) (base : ByteArray) (gs : List (List (List UInt8))) : Prop where
  ok : S.Ok
  files : ∃ P sy b, PicL dir r base P ∧ S.files = P ++ [⟨logName dir r, bytesOf gs, sy, b⟩]
  fits : ∀ x ∈ gs, Fits x

section
variable {S : St} {dir base state : ByteArray} {r n : Nat} {P : List FE} {gs : List (List (List UInt8))} {sy b : Nat}
theorem PicL.there (h : PicL dir r base P) (hF : ∃ Q, S.files = P ++ Q) : (r = 0 ∧ base = ⟨#[]⟩) ∨ (r ≠ 0 ∧ has S.files (picName dir r) = true ∧ readData S.files (picName dir r) = layBA base) := by
  obtain ⟨Q, hQ⟩ := hF
  rcases h with ⟨-, h1, h2⟩ | ⟨hr, y, c, rfl⟩
  · exact .inl ⟨h1, h2⟩
  · refine .inr ⟨hr, by rw [hQ]; exact has_mid (p := []) rfl, ?_⟩
    unfold readData
    rw [hQ, show [(⟨picName dir r, layBA base, y, c⟩ : FE)] ++ Q = [] ++ (⟨picName dir r, layBA base, y, c⟩ : FE) :: Q from rfl, fileOf_hit rfl (by simp)]
theorem PicL.round (h : PicL dir r base P) (hr : r ≤ 1000000) : (∀ f ∈ P, ∀ k, numIn f.name.data.toList (dir ++ ⟨#[46, 115]⟩).data.toList = some k → k = r) ∧ (r = 0 ∨ ∃ f ∈ P, numIn f.name.data.toList (dir ++ ⟨#[46, 115]⟩).data.toList = some r) := by
  refine ⟨fun f hf k hk => ?_, ?_⟩
  · rw [h.names f hf, picIn_pic dir hr] at hk
    exact (Option.some.inj hk).symm
  · rcases h with ⟨-, h1, -⟩ | ⟨-, y, c, rfl⟩
    · exact .inl h1
    · exact .inr ⟨_, List.mem_singleton.2 rfl, picIn_pic dir hr⟩
theorem PicL.keeps (h : PicL dir r base P) (hr : r ≤ 1000000) : P.filter (fun f => !oldB dir r f.name) = P := by
  rcases h with ⟨rfl, -⟩ | ⟨h0, y, c, rfl⟩
  · rfl
  · exact filter_one (by show (!oldB dir r (picName dir r)) = true; rw [old_pic dir r hr]; simp [h0])
theorem PicL.goes (h : PicL dir r base P) (hr : r ≤ 1000) : P.filter (fun f => !oldB dir (r + 1) f.name) = [] := by
  rcases h with ⟨rfl, -⟩ | ⟨-, y, c, rfl⟩
  · rfl
  · exact filter_none (by show (!oldB dir (r + 1) (picName dir r)) = false; rw [old_pic dir (r + 1) (by omega)]; simp)

/-- A store as it was, but for what stands behind the log's groups. -/
theorem open_log {t : List UInt8} (hO : S.Ok) (hc : Calm S) (hd : 1 ≤ dir.size ∧ dir.size ≤ 20) (hr : r ≤ 1000) (hbs : base.size ≤ 1000000) (hP : PicL dir r base P) (hF : S.files = P ++ [⟨logName dir r, bytesOf gs ++ ⟨t.toArray⟩, sy, b⟩]) (hf : ∀ x ∈ gs, Fits x)
    (hg : goodOf (logBytes gs ++ t) = (gs.flatten, gs.length, (logBytes gs).length)) (hz : sizeAll S.files + (logBytes gs).length ≤ 400000) :
    ∃ U, S.openStore dir = (0, U, some (r, base, logOf (logName dir r) gs)) ∧ Calm U ∧ Kept U dir r base gs := by
  obtain ⟨-, hvl, -, hvs, -⟩ := name_valid (dir := dir) (n := r) hd.2 (by omega)
  obtain ⟨h1, h2⟩ := hP.round (by omega)
  have hR : S.storeRound dir = r := by
    refine storeRound_eq (fun f hf k hk => ?_) ?_
    · rw [hF] at hf
      rcases List.mem_append.1 hf with h | h
      · have := h1 f h k hk; omega
      · obtain rfl := List.mem_singleton.1 h
        simp only at hk
        rw [picIn_log dir] at hk; cases hk
    · exact h2.imp_right fun ⟨f, hf, hk⟩ => ⟨f, by rw [hF]; exact List.mem_append.2 (.inl hf), hk⟩
  obtain ⟨T, sy', e1, e2, e3⟩ := openLog_last hc hF (fun f hf => by rw [hP.names f hf]; exact pic_ne_log) (fun f hf => by rw [hP.names f hf]; exact pic_ne_spare) hvl hvs (by have := hP.len; omega) hg hz
  obtain ⟨U, u1, u2, u3, u4⟩ := openStore_run hO hc hd hR hbs (hP.there ⟨_, hF⟩) e1 e2
  refine ⟨U, u1, u3, u2, ⟨P, sy', b, hP, ?_⟩, hf⟩
  rw [u4, e3, List.filter_append, hP.keeps (by omega), filter_one]
  show (!oldB dir r (logName dir r)) = true
  rw [old_log dir r (by omega)]; simp
theorem open_kept (hc : Calm S) (hk : Kept S dir r base gs) (hd : 1 ≤ dir.size ∧ dir.size ≤ 20) (hr : r ≤ 1000) (hbs : base.size ≤ 1000000) (hz : sizeAll S.files + (logBytes gs).length ≤ 400000) :
    ∃ U, S.openStore dir = (0, U, some (r, base, logOf (logName dir r) gs)) ∧ Calm U ∧ Kept U dir r base gs := by
  obtain ⟨P, sy, b, hP, hF⟩ := hk.files
  refine open_log (t := []) hk.ok hc hd hr hbs hP (sy := sy) (b := b) ?_ hk.fits (good_tail gs hk.fits [] (by simp)) hz
  rw [hF, show (⟨([] : List UInt8).toArray⟩ : ByteArray) = ByteArray.empty from rfl, ByteArray.append_empty]

/-- A work file beside it goes. -/
theorem open_work {x : ByteArray} {y c : Nat} (hO : S.Ok) (hc : Calm S) (hd : 1 ≤ dir.size ∧ dir.size ≤ 20) (hr : r ≤ 1000) (hbs : base.size ≤ 1000000) (hP : PicL dir r base P) (hF : S.files = P ++ [⟨logName dir r, bytesOf gs, sy, b⟩] ++ [⟨workName dir, x, y, c⟩]) (hf : ∀ x ∈ gs, Fits x) :
    ∃ U, S.openStore dir = (0, U, some (r, base, logOf (logName dir r) gs)) ∧ Calm U ∧ Kept U dir r base gs := by
  obtain ⟨h1, h2⟩ := hP.round (by omega)
  have hR : S.storeRound dir = r := by
    refine storeRound_eq (fun f hf k hk => ?_) ?_
    · rw [hF] at hf
      rcases List.mem_append.1 hf with h | h
      · rcases List.mem_append.1 h with h | h
        · have := h1 f h k hk; omega
        · obtain rfl := List.mem_singleton.1 h
          simp only at hk
          rw [picIn_log dir] at hk; cases hk
      · obtain rfl := List.mem_singleton.1 h
        simp only at hk
        rw [picIn_work dir] at hk; cases hk
    · exact h2.imp_right fun ⟨f, hf, hk⟩ => ⟨f, by rw [hF]; exact List.mem_append.2 (.inl (List.mem_append.2 (.inl hf))), hk⟩
  have hF2 : S.files = P ++ (⟨logName dir r, bytesOf gs, sy, b⟩ : FE) :: [⟨workName dir, x, y, c⟩] := by rw [hF]; simp
  have hl := openLog_there (name := logName dir r) (gs := gs) hc.on (by rw [hF2]; exact has_mid rfl) (by unfold readData; rw [hF2, fileOf_hit rfl (fun f hf => by rw [hP.names f hf]; exact pic_ne_log)]) hf
  obtain ⟨U, u1, u2, u3, u4⟩ := openStore_run hO hc hd hR hbs (hP.there ⟨_, hF2⟩) hl hc
  refine ⟨U, u1, u3, u2, ⟨P, sy, b, hP, ?_⟩, hf⟩
  rw [u4, hF, List.filter_append, List.filter_append, hP.keeps (by omega), filter_one, filter_none]
  · simp
  · show (!oldB dir r (workName dir)) = false
    rw [old_work dir r]; rfl
  · show (!oldB dir r (logName dir r)) = true
    rw [old_log dir r (by omega)]; simp

/-- The new picture is there, and perhaps its log: what was of the old round goes. -/
theorem open_next {A : List FE} {y c : Nat} {Z : List FE} (hO : S.Ok) (hc : Calm S) (hd : 1 ≤ dir.size ∧ dir.size ≤ 20) (hr : r ≤ 1000) (hss : state.size ≤ 1000000) (hA : ∀ f ∈ A, (f.name = picName dir r ∧ r ≠ 0) ∨ f.name = logName dir r) (hAl : A.length ≤ 2)
    (hF : S.files = A ++ [⟨picName dir (r + 1), layBA state, y, c⟩] ++ Z) (hZ : Z = [] ∨ ∃ sy b, Z = [⟨logName dir (r + 1), ByteArray.empty, sy, b⟩]) :
    ∃ U, S.openStore dir = (0, U, some (r + 1, state, logOf (logName dir (r + 1)) [])) ∧ Calm U ∧ Kept U dir (r + 1) state [] := by
  obtain ⟨-, hvl, -, hvs, -⟩ := name_valid (dir := dir) (n := r + 1) hd.2 (by omega)
  have hZn : ∀ f ∈ Z, f.name = logName dir (r + 1) := by
    rcases hZ with rfl | ⟨sy, b, rfl⟩
    · simp
    · intro f hf; obtain rfl := List.mem_singleton.1 hf; rfl
  have hR : S.storeRound dir = r + 1 := by
    refine storeRound_eq (fun f hf k hk => ?_) (.inr ⟨⟨picName dir (r + 1), layBA state, y, c⟩, by rw [hF]; simp, picIn_pic dir (by omega)⟩)
    rw [hF] at hf
    rcases List.mem_append.1 hf with h | h
    · rcases List.mem_append.1 h with h | h
      · rcases hA f h with ⟨h3, -⟩ | h3
        · rw [h3, picIn_pic dir (by omega)] at hk; have := Option.some.inj hk; omega
        · rw [h3, picIn_log dir] at hk; cases hk
      · obtain rfl := List.mem_singleton.1 h
        simp only at hk
        rw [picIn_pic dir (by omega)] at hk; have := Option.some.inj hk; omega
    · rw [hZn f h, picIn_log dir] at hk; cases hk
  have hAp : ∀ f ∈ A, f.name ≠ picName dir (r + 1) := fun f hf => by
    rcases hA f hf with ⟨h3, -⟩ | h3 <;> rw [h3]
    · exact pic_inj (by omega) (by omega) (by omega)
    · exact Ne.symm pic_ne_log
  have hApl : ∀ f ∈ A ++ [(⟨picName dir (r + 1), layBA state, y, c⟩ : FE)], f.name ≠ logName dir (r + 1) := fun f hf => by
    rcases List.mem_append.1 hf with h | h
    · rcases hA f h with ⟨h3, -⟩ | h3 <;> rw [h3]
      · exact pic_ne_log
      · exact log_inj (by omega) (by omega) (by omega)
    · obtain rfl := List.mem_singleton.1 h; exact pic_ne_log
  have hAps : ∀ f ∈ A ++ [(⟨picName dir (r + 1), layBA state, y, c⟩ : FE)], f.name ≠ spareOf (logName dir (r + 1)) := fun f hf => by
    rcases List.mem_append.1 hf with h | h
    · rcases hA f h with ⟨h3, -⟩ | h3 <;> rw [h3]
      · exact pic_ne_spare
      · exact log_ne_spare
    · obtain rfl := List.mem_singleton.1 h; exact pic_ne_spare
  have hpic : has S.files (picName dir (r + 1)) = true ∧ readData S.files (picName dir (r + 1)) = layBA state := by
    have hF2 : S.files = A ++ (⟨picName dir (r + 1), layBA state, y, c⟩ : FE) :: Z := by rw [hF]; simp
    refine ⟨by rw [hF2]; exact has_mid rfl, ?_⟩
    unfold readData
    rw [hF2, fileOf_hit rfl hAp]
  have hl : ∃ T sy' b', S.openLog (logName dir (r + 1)) = (0, T, some (logOf (logName dir (r + 1)) [])) ∧ Calm T ∧ T.files = A ++ [⟨picName dir (r + 1), layBA state, y, c⟩] ++ [⟨logName dir (r + 1), ByteArray.empty, sy', b'⟩] := by
    rcases hZ with rfl | ⟨sy, b, rfl⟩
    · rw [List.append_nil] at hF
      rcases openLog_new hc.on hvl (by rw [hF]; exact hApl) (by rw [hF, List.length_append]; simp; omega) with ⟨T, -, -, -, h4⟩ | ⟨T, h1, h2, h3, h4⟩
      · rw [hc.fused] at h4; cases h4
      · exact ⟨T, _, _, h1, ⟨h2, h4 hc.fused⟩, by rw [h3, hF]⟩
    · have hroom := hO.room
      obtain ⟨T, sy', h1, h2, h3⟩ := openLog_last (gs := []) (t := []) (sy := sy) (b := b) hc (by rw [hF]; rfl) hApl hAps hvl hvs (by rw [List.length_append]; simp; omega) (good_tail [] (by simp) [] (by simp)) (by rw [logBytes_nil]; exact hroom)
      exact ⟨T, sy', b, h1, h2, h3⟩
  obtain ⟨T, sy', b', e1, e2, e3⟩ := hl
  obtain ⟨U, u1, u2, u3, u4⟩ := openStore_run (base := state) hO hc hd hR hss (.inr ⟨by omega, hpic⟩) e1 e2
  refine ⟨U, u1, u3, u2, ⟨[⟨picName dir (r + 1), layBA state, y, c⟩], sy', b', .inr ⟨by omega, y, c, rfl⟩, ?_⟩, by simp⟩
  rw [u4, e3, List.filter_append, List.filter_append, show A.filter (fun f => !oldB dir (r + 1) f.name) = [] from ?_, filter_one, filter_one]
  · rfl
  · show (!oldB dir (r + 1) (logName dir (r + 1))) = true
    rw [old_log dir (r + 1) (by omega)]; simp
  · show (!oldB dir (r + 1) (picName dir (r + 1))) = true
    rw [old_pic dir (r + 1) (by omega)]; simp
  · rw [List.filter_eq_nil_iff]
    intro f hf
    rcases hA f hf with ⟨h3, -⟩ | h3 <;> rw [h3]
    · rw [old_pic dir (r + 1) (by omega)]; simp
    · rw [old_log dir (r + 1) (by omega)]; simp
end

/-! A store's disk behind a failure of the power: what an open finds then. -/

/-- What a failure leaves of a file. -/
def CutFE (f g : FE) : Prop := g.name = f.name ∧ ∃ j, f.synced ≤ j ∧ j ≤ f.data.size ∧ g.data = f.data.extract 0 j ∧ f.synced ≤ g.synced ∧ g.synced ≤ j
theorem CutFE.refl {f : FE} (h : f.synced ≤ f.data.size) : CutFE f f := ⟨rfl, f.data.size, h, Nat.le_refl _, ByteArray.extract_zero_size.symm, Nat.le_refl _, h⟩
theorem CutFE.size {f g : FE} (h : CutFE f g) : g.synced ≤ g.data.size := by
  obtain ⟨-, j, -, h2, h3, -, h5⟩ := h
  rw [h3, ByteArray.size_extract]; omega
theorem CutFE.trans {f g k : FE} (h : CutFE f g) (h' : CutFE g k) : CutFE f k := by
  obtain ⟨a0, j, a1, a2, a3, a4, a5⟩ := h
  obtain ⟨b0, i, b1, b2, b3, b4, b5⟩ := h'
  have hs : g.data.size = j := by rw [a3, ByteArray.size_extract]; omega
  refine ⟨b0.trans a0, i, by omega, by omega, ?_, by omega, b5⟩
  rw [b3, a3]
  apply ByteArray.ext
  rw [← Array.toList_inj, Lib.extract_data, Lib.extract_data, Lib.extract_data]
  simp only [List.drop_zero, Nat.sub_zero, List.take_take]
  rw [Nat.min_eq_left (by omega)]
theorem CutFE.full {f g : FE} (h : CutFE f g) (hf : f.synced = f.data.size) : g.data = f.data := by
  obtain ⟨-, j, a1, a2, a3, -⟩ := h
  rw [a3, show j = f.data.size by omega, ByteArray.extract_zero_size]
theorem crashAll_cut (keep : List Int) : ∀ (names : List ByteArray) (i : Nat) (l : List FE), (∀ f ∈ l, f.synced ≤ f.data.size) → ∃ h : FE → FE, crashAll keep names i l = l.map h ∧ ∀ f ∈ l, CutFE f (h f)
  | [], _, l, hl => ⟨id, by simp [crashAll], fun f hf => CutFE.refl (hl f hf)⟩
  | s :: names, i, l, hl => by
    have h1 : ∀ f ∈ l, CutFE f (if f.name = s then crashFE keep i f else f) := fun f hf => by
      split
      · exact ⟨rfl, f.synced + keptAt keep i f, Nat.le_add_right _ _, keptAt_le keep i f (hl f hf), rfl, Nat.le_add_right _ _, Nat.le_refl _⟩
      · exact CutFE.refl (hl f hf)
    obtain ⟨h, h2, h3⟩ := crashAll_cut keep names (i + 1) (upd l s (crashFE keep i)) (fun g hg => by
      obtain ⟨f, hf, rfl⟩ := List.mem_map.1 hg
      exact (h1 f hf).size)
    refine ⟨fun f => h (if f.name = s then crashFE keep i f else f), ?_, fun f hf => (h1 f hf).trans (h3 _ (List.mem_map.2 ⟨f, hf, rfl⟩))⟩
    show crashAll keep names (i + 1) (upd l s (crashFE keep i)) = _
    rw [h2]
    unfold upd
    rw [List.map_map]; rfl
/-- The power was taken, and given again. -/
def St.again (S : St) (keep : List Int) : St := { S.crash keep with on := true }
theorem again_ok {S : St} (h : S.Ok) (keep : List Int) : (S.again keep).Ok ∧ Calm (S.again keep) := ⟨(h.crash keep).setOn true, rfl, rfl⟩
theorem again_files {S : St} (h : S.Ok) (keep : List Int) : ∃ k : FE → FE, (S.again keep).files = S.files.map k ∧ ∀ f ∈ S.files, CutFE f (k f) := crashAll_cut keep (namesOf S.files) 0 S.files h.synced

/-- All of these files are synced. -/
def Full (l : List FE) : Prop := ∀ f ∈ l, f.synced = f.data.size
section
variable {S : St} {dir base state : ByteArray} {r n : Nat} {P : List FE} {gs : List (List (List UInt8))} {sy b : Nat} {k : FE → FE}
theorem PicL.map (h : PicL dir r base P) (hf : Full P) (hk : ∀ f ∈ P, CutFE f (k f)) : PicL dir r base (P.map k) := by
  rcases h with ⟨rfl, h1, h2⟩ | ⟨hr, y, c, rfl⟩
  · exact .inl ⟨rfl, h1, h2⟩
  · have h1 := hk _ (List.mem_singleton.2 rfl)
    have h2 := h1.full (hf _ (List.mem_singleton.2 rfl))
    have h3 := h1.1
    refine .inr ⟨hr, (k ⟨picName dir r, layBA base, y, c⟩).synced, (k ⟨picName dir r, layBA base, y, c⟩).born, ?_⟩
    show [k _] = _
    generalize k ⟨picName dir r, layBA base, y, c⟩ = g at *
    obtain ⟨g1, g2, g3, g4⟩ := g
    simp only at h2 h3
    rw [h2, h3]
theorem cut_file {name data : ByteArray} {y c : Nat} (h : CutFE ⟨name, data, y, c⟩ (k ⟨name, data, y, c⟩)) (hf : y = data.size) : ∃ y' c', k ⟨name, data, y, c⟩ = ⟨name, data, y', c'⟩ := by
  have h2 := h.full hf
  have h3 := h.1
  generalize k ⟨name, data, y, c⟩ = g at *
  obtain ⟨g1, g2, g3, g4⟩ := g
  simp only at h2 h3
  exact ⟨g3, g4, by rw [h2, h3]⟩

/-- Behind a failure within a Save there is the old picture with its groups, or the new one. -/
theorem open_halted (hO : S.Ok) (keep : List Int) (hd : 1 ≤ dir.size ∧ dir.size ≤ 20) (hr : r ≤ 1000) (hbs : base.size ≤ 1000000) (hss : state.size ≤ 1000000) (hP : PicL dir r base P) (hPf : Full P) (hsy : sy = (bytesOf gs).size) (hf : ∀ x ∈ gs, Fits x)
    (hz : sizeAll S.files + (logBytes gs).length ≤ 400000) (hh : Halt dir (r + 1) state P ⟨logName dir r, bytesOf gs, sy, b⟩ S.files) :
    (∃ U, (S.again keep).openStore dir = (0, U, some (r, base, logOf (logName dir r) gs)) ∧ Calm U ∧ Kept U dir r base gs) ∨
    (∃ U, (S.again keep).openStore dir = (0, U, some (r + 1, state, logOf (logName dir (r + 1)) [])) ∧ Calm U ∧ Kept U dir (r + 1) state []) := by
  obtain ⟨hO', hc'⟩ := again_ok hO keep
  obtain ⟨k, hk, hcut⟩ := again_files hO keep
  have hsz : sizeAll (S.again keep).files ≤ sizeAll S.files := by
    rw [hk]
    have key : ∀ l : List FE, (∀ f ∈ l, CutFE f (k f)) → sizeAll (l.map k) ≤ sizeAll l := by
      intro l
      induction l with
      | nil => intro _; exact Nat.le_refl _
      | cons f l ih =>
        intro h
        have h1 := ih (fun g hg => h g (List.mem_cons_of_mem _ hg))
        obtain ⟨-, j, -, h3, h4, -⟩ := h f (by simp)
        have h5 : (k f).data.size ≤ f.data.size := by rw [h4, ByteArray.size_extract]; omega
        show (k f).data.size + sizeAll (l.map k) ≤ f.data.size + sizeAll l
        omega
    exact key _ hcut
  generalize S.again keep = T at *
  have hPk : ∀ Q, S.files = P ++ Q → PicL dir r base (P.map k) := fun Q hQ => hP.map hPf (fun f hf => hcut f (by rw [hQ]; exact List.mem_append.2 (.inl hf)))
  have hlgk : (⟨logName dir r, bytesOf gs, sy, b⟩ : FE) ∈ S.files → ∃ y' c', k ⟨logName dir r, bytesOf gs, sy, b⟩ = ⟨logName dir r, bytesOf gs, y', c'⟩ := fun h => cut_file (hcut _ h) hsy
  have hpick : ∀ c, (⟨picName dir (r + 1), layBA state, (layBA state).size, c⟩ : FE) ∈ S.files → ∃ y' c', k ⟨picName dir (r + 1), layBA state, (layBA state).size, c⟩ = ⟨picName dir (r + 1), layBA state, y', c'⟩ := fun c h => cut_file (hcut _ h) rfl
  have hlogk : ∀ c, (⟨logName dir (r + 1), ByteArray.empty, 0, c⟩ : FE) ∈ S.files → ∃ y' c', k ⟨logName dir (r + 1), ByteArray.empty, 0, c⟩ = ⟨logName dir (r + 1), ByteArray.empty, y', c'⟩ := fun c h => cut_file (hcut _ h) rfl
  have hPn : ∀ Q, S.files = P ++ Q → ∀ f ∈ P.map k, f.name = picName dir r ∧ r ≠ 0 := fun Q hQ f hf => by
    have h1 := hPk Q hQ
    refine ⟨h1.names f hf, ?_⟩
    rcases h1 with ⟨h2, -⟩ | ⟨h2, -⟩
    · rw [h2] at hf; cases hf
    · exact h2
  rcases hh with h | ⟨x, y, c, h⟩ | ⟨c, h⟩ | ⟨c, e, h⟩ | ⟨c, e, h⟩
  · obtain ⟨y', c', hl⟩ := hlgk (by rw [h]; simp)
    refine .inl (open_log (t := []) (sy := y') (b := c') hO' hc' hd hr hbs (hPk _ h) ?_ hf (good_tail gs hf [] (by simp)) (by omega))
    rw [hk, h, List.map_append, List.map_cons, List.map_nil, hl, show (⟨([] : List UInt8).toArray⟩ : ByteArray) = ByteArray.empty from rfl, ByteArray.append_empty]
  · obtain ⟨y', c', hl⟩ := hlgk (by rw [h]; simp)
    have hwk := (hcut ⟨workName dir, x, y, c⟩ (by rw [h]; simp)).1
    refine .inl (open_work (sy := y') (b := c') (x := (k ⟨workName dir, x, y, c⟩).data) (y := (k ⟨workName dir, x, y, c⟩).synced) (c := (k ⟨workName dir, x, y, c⟩).born) hO' hc' hd hr hbs (hPk _ (by rw [h, List.append_assoc])) ?_ hf)
    rw [hk, h, List.map_append, List.map_append, List.map_cons, List.map_nil, hl, List.map_cons, List.map_nil]
    congr 2
    generalize k ⟨workName dir, x, y, c⟩ = g at *
    obtain ⟨g1, g2, g3, g4⟩ := g
    simp only at hwk ⊢
    rw [hwk]
  · obtain ⟨y', c', hl⟩ := hlgk (by rw [h]; simp)
    obtain ⟨y2, c2, hp⟩ := hpick c (by rw [h]; simp)
    refine .inr (open_next (A := P.map k ++ [⟨logName dir r, bytesOf gs, y', c'⟩]) (y := y2) (c := c2) (Z := []) hO' hc' hd hr hss (fun f hf => ?_) (by rw [List.length_append, List.length_map]; have := hP.len; simp; omega) ?_ (.inl rfl))
    · rcases List.mem_append.1 hf with h1 | h1
      · exact .inl (hPn _ (by rw [h, List.append_assoc]) f h1)
      · obtain rfl := List.mem_singleton.1 h1; exact .inr rfl
    · rw [hk, h, List.map_append, List.map_append, List.map_cons, List.map_nil, hl, List.map_cons, List.map_nil, hp, List.append_nil]
  · obtain ⟨y', c', hl⟩ := hlgk (by rw [h]; simp)
    obtain ⟨y2, c2, hp⟩ := hpick c (by rw [h]; simp)
    obtain ⟨y3, c3, hn⟩ := hlogk e (by rw [h]; simp)
    refine .inr (open_next (A := P.map k ++ [⟨logName dir r, bytesOf gs, y', c'⟩]) (y := y2) (c := c2) (Z := [⟨logName dir (r + 1), ByteArray.empty, y3, c3⟩]) hO' hc' hd hr hss (fun f hf => ?_) (by rw [List.length_append, List.length_map]; have := hP.len; simp; omega) ?_ (.inr ⟨_, _, rfl⟩))
    · rcases List.mem_append.1 hf with h1 | h1
      · exact .inl (hPn _ (by rw [h, List.append_assoc, List.append_assoc]) f h1)
      · obtain rfl := List.mem_singleton.1 h1; exact .inr rfl
    · rw [hk, h, List.map_append, List.map_append, List.map_append, List.map_cons, List.map_nil, hl, List.map_cons, List.map_nil, hp, List.map_cons, List.map_nil, hn]
  · obtain ⟨y', c', hl⟩ := hlgk (by rw [h]; simp)
    obtain ⟨y2, c2, hp⟩ := hpick c (by rw [h]; simp)
    obtain ⟨y3, c3, hn⟩ := hlogk e (by rw [h]; simp)
    refine .inr (open_next (A := [⟨logName dir r, bytesOf gs, y', c'⟩]) (y := y2) (c := c2) (Z := [⟨logName dir (r + 1), ByteArray.empty, y3, c3⟩]) hO' hc' hd hr hss (fun f hf => ?_) (by simp) ?_ (.inr ⟨_, _, rfl⟩))
    · obtain rfl := List.mem_singleton.1 hf; exact .inr rfl
    · rw [hk, h, List.map_append, List.map_append, List.map_cons, List.map_nil, hl, List.map_cons, List.map_nil, hp, List.map_cons, List.map_nil, hn]
end

/-! A group in a store's log, fuse or not; the log's file behind a failure; a new store. -/

theorem logOf_add (name : ByteArray) (gs : List (List (List UInt8))) (g : List (List UInt8)) : ({ logOf name gs with recs := (logOf name gs).recs ++ g, groups := (logOf name gs).groups + 1, size := (logOf name gs).size + (groupBytes g).length } : LSt) = logOf name (gs ++ [g]) := by
  unfold logOf
  simp [logBytes_snoc]
theorem fits_add {gs : List (List (List UInt8))} {g : List (List UInt8)} (hf : ∀ x ∈ gs, Fits x) (hg : Fits g) : ∀ x ∈ gs ++ [g], Fits x := by
  intro x hx
  rcases List.mem_append.1 hx with h1 | h1
  · exact hf x h1
  · obtain rfl := List.mem_singleton.1 h1; exact hg
theorem St.Ok.commitRun {S : St} (h : S.Ok) (name : ByteArray) (l : List (List UInt8)) : (S.commitRun name l).2.Ok :=
  runSteps_ok (fun f hf T hT => by
    simp only [List.mem_cons, List.not_mem_nil, or_false] at hf
    rcases hf with rfl | rfl
    · exact hT.append _ _
    · exact hT.sync _) h

/-- What a file with groups and a part of one more tells: all of that one or none of it. -/
def TellsOf (gs : List (List (List UInt8))) (x : List UInt8) (a b : List (List UInt8)) : Prop :=
  ∀ j, j ≤ x.length → ∃ gs' t, logBytes gs ++ x.take j = logBytes gs' ++ t ∧ goodOf (logBytes gs' ++ t) = (gs'.flatten, gs'.length, (logBytes gs').length) ∧ (∀ y ∈ gs', Fits y) ∧ (gs'.flatten = a ∨ gs'.flatten = b) ∧ gs'.length ≤ gs.length + 1
theorem tellsOf_all {gs : List (List (List UInt8))} (hf : ∀ y ∈ gs, Fits y) (b : List (List UInt8)) : TellsOf gs [] gs.flatten b := by
  intro j hj
  obtain rfl : j = 0 := by simpa using hj
  exact ⟨gs, [], rfl, good_tail gs hf [] (by simp), hf, .inl rfl, by omega⟩
theorem tellsOf_one {gs : List (List (List UInt8))} {g : List (List UInt8)} (hf : ∀ y ∈ gs, Fits y) (hg : Fits g) : TellsOf gs (groupBytes g) gs.flatten (gs.flatten ++ g) := by
  intro j hj
  rcases Nat.lt_or_ge j (groupBytes g).length with h | h
  · exact ⟨gs, _, rfl, good_cut gs hf g hg j h, hf, .inl rfl, by omega⟩
  · refine ⟨gs ++ [g], [], ?_, good_tail _ (fits_add hf hg) [] (by simp), fits_add hf hg, .inr ?_, by simp⟩
    · rw [List.take_of_length_le h, logBytes_snoc, List.append_nil]
    · rw [List.flatten_append]; simp
theorem extract_tells {gs gs' : List (List (List UInt8))} {x t : List UInt8} {j : Nat} (h1 : (logBytes gs).length ≤ j) (h : logBytes gs ++ x.take (j - (logBytes gs).length) = logBytes gs' ++ t) :
    (bytesOf gs ++ ⟨x.toArray⟩).extract 0 j = bytesOf gs' ++ ⟨t.toArray⟩ := by
  apply ByteArray.ext
  rw [← Array.toList_inj, Lib.extract_data, ByteArray.data_append, ByteArray.data_append]
  simp only [bytesOf, Array.toList_append, List.drop_zero, Nat.sub_zero, List.take_append]
  rw [List.take_of_length_le h1]
  exact h

section
variable {S : St} {dir base : ByteArray} {r : Nat} {P : List FE} {gs : List (List (List UInt8))} {sy b : Nat} {name : ByteArray}
/-- A group is written to a log that is the last file. -/
theorem commit_run (hO : S.Ok) (hon : S.on = true) (hF : S.files = P ++ [⟨name, bytesOf gs, sy, b⟩]) (hP : ∀ f ∈ P, f.name ≠ name) (g : List (List UInt8)) (hg : Fits g) (hne : g ≠ []) (hz : sizeAll S.files + (groupBytes g).length ≤ 400000) :
    (∃ T, S.commit (logOf name gs) g = (0, T, logOf name (gs ++ [g])) ∧ T.Ok ∧ T.on = true ∧ (S.fused = false → T.fused = false) ∧ T.files = P ++ [⟨name, bytesOf (gs ++ [g]), (bytesOf (gs ++ [g])).size, b⟩]) ∨
    (∃ T, S.commit (logOf name gs) g = (14, T, { logOf name gs with broken := true }) ∧ T.Ok ∧ T.on = false ∧ S.fused = true ∧ T.files = P ++ [⟨name, bytesOf gs ++ ⟨(groupBytes g).toArray⟩, sy, b⟩]) := by
  have hOk := hO.commitRun name g
  have hl : longR g = false := by
    unfold longR
    rw [List.any_eq_false]
    intro s hs
    have := hg.2 s hs
    simp; omega
  have hcom : S.commit (logOf name gs) g = if (S.commitRun name g).1 = 0 then (0, (S.commitRun name g).2, logOf name (gs ++ [g])) else ((S.commitRun name g).1, (S.commitRun name g).2, { logOf name gs with broken := true }) := by
    unfold St.commit
    rw [if_neg (by simp [logOf]), if_neg (by simp [hl]), if_neg hne, logOf_add]
    rfl
  have hbs : (⟨(groupBytes g).toArray⟩ : ByteArray).size = (groupBytes g).length := by rw [Lib.size_eq]
  rcases append_ran (z := ⟨(groupBytes g).toArray⟩) hon hF hP (by rw [hbs]; exact hz) with ⟨a1, a2, a3, a4⟩ | ⟨a1, a2, a3, a4⟩
  · have e : S.commitRun name g = S.append name ⟨(groupBytes g).toArray⟩ := runSteps_halt (f := fun T => T.append name ⟨(groupBytes g).toArray⟩) (by rw [a1]; exact n14)
    rw [e] at hcom hOk
    rw [if_neg (by rw [a1]; exact n14), a1] at hcom
    exact .inr ⟨_, hcom, hOk, a2, a4, a3⟩
  · have e : S.commitRun name g = runSteps [fun T => T.sync name] (S.append name ⟨(groupBytes g).toArray⟩).2 := runSteps_cons (f := fun T => T.append name ⟨(groupBytes g).toArray⟩) a1
    generalize (S.append name ⟨(groupBytes g).toArray⟩).2 = S1 at *
    rcases sync_ran a2 a3 hP with ⟨c1, c2, c3, c4⟩ | ⟨c1, c2, c3, c4⟩
    · have e2 : S.commitRun name g = S1.sync name := e.trans (runSteps_halt (f := fun T => T.sync name) (by rw [c1]; exact n14))
      rw [e2] at hcom hOk
      rw [if_neg (by rw [c1]; exact n14), c1] at hcom
      refine .inr ⟨_, hcom, hOk, c2, ?_, c3.trans a3⟩
      cases hf : S.fused
      · rw [a4 hf] at c4; cases c4
      · rfl
    · have e2 : S.commitRun name g = (0, (S1.sync name).2) := e.trans (runSteps_cons (f := fun T => T.sync name) c1)
      rw [e2] at hcom hOk
      rw [if_pos rfl] at hcom
      exact .inl ⟨_, hcom, hOk, c2, fun h => c4 (a4 h), by rw [c3, bytesOf_snoc]⟩

/-- Behind a failure the log's file tells all of the last group or nothing of it. -/
theorem open_cutlog {x : List UInt8} {u v : List (List UInt8)} (hO : S.Ok) (keep : List Int) (hd : 1 ≤ dir.size ∧ dir.size ≤ 20) (hr : r ≤ 1000) (hbs : base.size ≤ 1000000) (hP : PicL dir r base P) (hPf : Full P)
    (hF : S.files = P ++ [⟨logName dir r, bytesOf gs ++ ⟨x.toArray⟩, (logBytes gs).length, b⟩]) (ht : TellsOf gs x u v) (hz : sizeAll S.files + (logBytes gs).length + x.length ≤ 400000) :
    ∃ gs' U, (S.again keep).openStore dir = (0, U, some (r, base, logOf (logName dir r) gs')) ∧ Calm U ∧ Kept U dir r base gs' ∧ (gs'.flatten = u ∨ gs'.flatten = v) ∧ gs'.length ≤ gs.length + 1 ∧ (logBytes gs').length ≤ (logBytes gs).length + x.length := by
  obtain ⟨hO', hc'⟩ := again_ok hO keep
  obtain ⟨k, hk, hcut⟩ := again_files hO keep
  have hlg := hcut ⟨logName dir r, bytesOf gs ++ ⟨x.toArray⟩, (logBytes gs).length, b⟩ (by rw [hF]; simp)
  obtain ⟨hnm, j, j1, j2, j3, -⟩ := hlg
  simp only at hnm j1 j2 j3
  have hsz : (bytesOf gs ++ ⟨x.toArray⟩ : ByteArray).size = (logBytes gs).length + x.length := by rw [ByteArray.size_append, bytesOf_size, Lib.size_eq]
  rw [hsz] at j2
  obtain ⟨gs', t, t1, t2, t3, t4, t5⟩ := ht (j - (logBytes gs).length) (by omega)
  rw [extract_tells j1 t1] at j3
  have hlen := congrArg List.length t1
  simp only [List.length_append, List.length_take] at hlen
  have hkf : k ⟨logName dir r, bytesOf gs ++ ⟨x.toArray⟩, (logBytes gs).length, b⟩ = ⟨logName dir r, bytesOf gs' ++ ⟨t.toArray⟩, (k ⟨logName dir r, bytesOf gs ++ ⟨x.toArray⟩, (logBytes gs).length, b⟩).synced, (k ⟨logName dir r, bytesOf gs ++ ⟨x.toArray⟩, (logBytes gs).length, b⟩).born⟩ := by
    generalize k ⟨logName dir r, bytesOf gs ++ ⟨x.toArray⟩, (logBytes gs).length, b⟩ = g at *
    obtain ⟨g1, g2, g3, g4⟩ := g
    simp only at hnm j3 ⊢
    rw [hnm, j3]
  have hPk := hP.map hPf (fun f hf => hcut f (by rw [hF]; exact List.mem_append.2 (.inl hf)))
  have hTF : (S.again keep).files = P.map k ++ [⟨logName dir r, bytesOf gs' ++ ⟨t.toArray⟩, (k ⟨logName dir r, bytesOf gs ++ ⟨x.toArray⟩, (logBytes gs).length, b⟩).synced, (k ⟨logName dir r, bytesOf gs ++ ⟨x.toArray⟩, (logBytes gs).length, b⟩).born⟩] := by
    rw [hk, hF, List.map_append, List.map_cons, List.map_nil]
    conv => lhs; rw [hkf]
  have hsum : sizeAll (S.again keep).files ≤ sizeAll S.files := by
    rw [hTF, hF, sizeAll_append, sizeAll_append]
    have hp : sizeAll (P.map k) ≤ sizeAll P := by
      rcases hP with ⟨rfl, -⟩ | ⟨-, y, c, rfl⟩
      · exact Nat.le_refl _
      · have h1 := (hcut ⟨picName dir r, layBA base, y, c⟩ (by rw [hF]; simp)).full (hPf _ (List.mem_singleton.2 rfl))
        show (k _).data.size + 0 ≤ _ + 0
        rw [h1]
        exact Nat.le_refl _
    have h2 : (bytesOf gs' ++ ⟨t.toArray⟩ : ByteArray).size = (logBytes gs').length + t.length := by rw [ByteArray.size_append, bytesOf_size, Lib.size_eq]
    simp only [sizeAll]
    rw [h2, hsz]
    omega
  obtain ⟨U, u1, u2, u3⟩ := open_log hO' hc' hd hr hbs hPk hTF t3 t2 (by omega)
  exact ⟨gs', U, u1, u2, u3, t4, t5, by omega⟩

theorem Kept.room (hk : Kept S dir r base gs) : sizeAll S.files ≤ (layBA base).size + (logBytes gs).length := by
  obtain ⟨P, sy, b, hP, hF⟩ := hk.files
  rw [hF, sizeAll_append]
  rcases hP with ⟨rfl, -⟩ | ⟨-, y, c, rfl⟩
  · simp only [sizeAll, bytesOf_size]; omega
  · simp only [sizeAll, bytesOf_size]; omega

/-- A store on a new disk. -/
theorem open_newStore (hd : 1 ≤ dir.size ∧ dir.size ≤ 20) : ∃ U, St.new.openStore dir = (0, U, some (0, ⟨#[]⟩, logOf (logName dir 0) [])) ∧ Calm U ∧ Kept U dir 0 ⟨#[]⟩ [] ∧ Full U.files := by
  obtain ⟨-, hvl, -⟩ := name_valid (dir := dir) (n := 0) hd.2 (by omega)
  have hc : Calm St.new := ⟨rfl, rfl⟩
  have hR : St.new.storeRound dir = 0 := storeRound_eq (fun f hf => by cases hf) (.inl rfl)
  rcases openLog_new (S := St.new) (name := logName dir 0) rfl hvl (fun f hf => by cases hf) (by decide) with ⟨T, -, -, -, h4⟩ | ⟨T, h1, h2, h3, h4⟩
  · cases h4
  · obtain ⟨U, u1, u2, u3, u4⟩ := openStore_run (base := ⟨#[]⟩) St.Ok.new hc hd hR (by decide) (.inl ⟨rfl, rfl⟩) h1 ⟨h2, h4 rfl⟩
    have hUF : U.files = [⟨logName dir 0, ByteArray.empty, 0, St.new.clock⟩] := by
      rw [u4, h3]
      refine filter_one ?_
      show (!oldB dir 0 (logName dir 0)) = true
      rw [old_log dir 0 (by omega)]; simp
    refine ⟨U, u1, u3, ⟨u2, ⟨[], 0, St.new.clock, .inl ⟨rfl, rfl, rfl⟩, hUF⟩, by simp⟩, ?_⟩
    rw [hUF]
    intro f hf
    obtain rfl := List.mem_singleton.1 hf
    rfl
end

end Go.Proofs.YtncpeaamfmfcgaaGreat
