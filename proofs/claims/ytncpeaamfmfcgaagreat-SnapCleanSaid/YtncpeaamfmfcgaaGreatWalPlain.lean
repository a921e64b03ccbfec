/- What good finds in a file of groups: all of them, and nothing of what stands behind without a marker. Plain lists. -/
import Derived.Test.YtncpeaamfmfcgaaGreatWalGood
namespace Go.Proofs.YtncpeaamfmfcgaaGreat
open Go.RowKit Go.Proofs.YtncpeaamfmfcgaaGreat.Sum

theorem dec_varint : ∀ (m i acc : Nat), (m = 0 → i = 0) → i < 9 → m * 128 ^ i < 128 ^ 9 → dec i acc (varint m) = some (acc + m * 128 ^ i, i + (varint m).length) := by
  intro m
  induction m using Nat.strongRecOn with
  | ind m ih =>
    intro i acc h0 hi hm
    by_cases h : m < 128
    · rw [varint_small h]
      have e : (UInt8.ofNat m).toNat = m := by rw [UInt8.toNat_ofNat']; omega
      simp only [dec, e, List.length_cons, List.length_nil]
      rw [if_neg (by omega), if_neg (by omega), if_neg (by omega), if_neg (by omega), Nat.mod_eq_of_lt h]
    · rw [varint_big h]
      have e : (UInt8.ofNat (m % 128 + 128)).toNat = m % 128 + 128 := by rw [UInt8.toNat_ofNat']; omega
      have hp : 128 ^ (i + 1) = 128 ^ i * 128 := Nat.pow_succ ..
      have hle : m / 128 * 128 ^ (i + 1) ≤ m * 128 ^ i := by
        rw [hp]
        calc m / 128 * (128 ^ i * 128) = (m / 128 * 128) * 128 ^ i := by rw [Nat.mul_comm (128 ^ i), ← Nat.mul_assoc]
          _ ≤ m * 128 ^ i := Nat.mul_le_mul_right _ (Nat.div_mul_le_self m 128)
      have hd : 1 ≤ m / 128 := by omega
      have hi1 : i + 1 < 9 := by
        rcases Nat.lt_or_ge (i + 1) 9 with h | h
        · exact h
        · have h1 : 128 ^ 9 ≤ 128 ^ (i + 1) := Nat.pow_le_pow_right (by omega) h
          have h2 : 1 * 128 ^ (i + 1) ≤ m / 128 * 128 ^ (i + 1) := Nat.mul_le_mul_right _ hd
          omega
      simp only [dec, e, List.length_cons]
      rw [if_neg (by omega), if_neg (by omega), if_pos (by omega), ih (m / 128) (by omega) (i + 1) _ (by omega) hi1 (by omega)]
      congr 1
      have hs : (m % 128 + 128) % 128 = m % 128 := by omega
      rw [hs]
      refine Prod.ext ?_ ?_
      · show acc + m % 128 * 128 ^ i + m / 128 * 128 ^ (i + 1) = acc + m * 128 ^ i
        have e1 : m * 128 ^ i = (m % 128 + 128 * (m / 128)) * 128 ^ i := by rw [Nat.mod_add_div]
        rw [e1, hp, Nat.add_mul, Nat.mul_comm (128 ^ i) 128, ← Nat.mul_assoc, Nat.mul_comm (m / 128) 128]
        omega
      · show i + 1 + _ = i + (_ + 1); omega

theorem countOf_varint (k : Nat) (hk : k ≤ 1000000) : countOf (varint (2 * k)) = some (k : Int) := by
  unfold countOf
  rw [dec_varint (2 * k) 0 0 (fun _ => rfl) (by omega) (by have : (128 : Nat) ^ 9 = 9223372036854775808 := by decide
                                                           omega)]
  simp only [Nat.zero_add, Nat.pow_zero, Nat.mul_one]
  rw [if_pos trivial]
  unfold zig
  rw [if_pos (by omega), show 2 * k / 2 = k by omega]

/-- A group's frames. -/
def groupFrames (l : List (List UInt8)) : List (List UInt8) := l.map (114 :: ·) ++ [99 :: varint (2 * l.length)]
theorem groupBytes_eq (l : List (List UInt8)) : groupBytes l = frames (groupFrames l) := rfl
def logFrames (gs : List (List (List UInt8))) : List (List UInt8) := gs.flatMap groupFrames
/-- The bytes of groups, one behind the other. -/
def logBytes (gs : List (List (List UInt8))) : List UInt8 := frames (logFrames gs)
theorem logBytes_snoc (gs : List (List (List UInt8))) (g : List (List UInt8)) : logBytes (gs ++ [g]) = logBytes gs ++ groupBytes g := by
  unfold logBytes logFrames
  rw [List.flatMap_append, frames_append]
  congr 1
  simp [groupBytes_eq]

/-- Groups that Commit takes. -/
def Fits (g : List (List UInt8)) : Prop := g.length ≤ 100000 ∧ ∀ s ∈ g, s.length < 60000

theorem goodGo_recs (g fs op : List (List UInt8)) (a : Nat) (r : List (List UInt8)) (n z : Nat) :
    goodGo (g.map (114 :: ·) ++ fs) op a r n z = goodGo fs (op ++ g) (a + (frames (g.map (114 :: ·))).length) r n z := by
  induction g generalizing op a with
  | nil => simp [frames]
  | cons s g ih =>
    simp only [List.map_cons, List.cons_append, goodGo, if_pos]
    rw [ih, List.append_assoc, List.singleton_append]
    congr 1
    simp only [frames, List.length_append, frame_length, List.length_cons]
    omega
theorem goodGo_group (g fs : List (List UInt8)) (hg : Fits g) (a : Nat) (r : List (List UInt8)) (n z : Nat) :
    goodGo (groupFrames g ++ fs) [] a r n z = goodGo fs [] (a + (groupBytes g).length) (r ++ g) (n + 1) (a + (groupBytes g).length) := by
  unfold groupFrames
  rw [List.append_assoc, goodGo_recs, List.singleton_append]
  simp only [goodGo, List.nil_append]
  rw [if_neg (by decide), if_pos trivial, countOf_varint _ (by have := hg.1; omega), if_pos rfl]
  have e : a + (frames (g.map (114 :: ·))).length + ((varint (2 * g.length)).length + 9) = a + (groupBytes g).length := by
    rw [groupBytes_eq]; unfold groupFrames
    rw [frames_append, List.length_append, frames_one, frame_length, List.length_cons]
    omega
  rw [e]
theorem goodGo_log (gs : List (List (List UInt8))) (hg : ∀ g ∈ gs, Fits g) (fs : List (List UInt8)) (a : Nat) (r : List (List UInt8)) (n z : Nat) :
    goodGo (logFrames gs ++ fs) [] a r n z = goodGo fs [] (a + (logBytes gs).length) (r ++ gs.flatten) (n + gs.length) (if gs = [] then z else a + (logBytes gs).length) := by
  induction gs generalizing a r n z with
  | nil => simp [logFrames, logBytes, frames]
  | cons g gs ih =>
    have e : logFrames (g :: gs) = groupFrames g ++ logFrames gs := rfl
    have eb : (logBytes (g :: gs)).length = (groupBytes g).length + (logBytes gs).length := by
      unfold logBytes; rw [e, frames_append, List.length_append]; rfl
    rw [e, List.append_assoc, goodGo_group _ _ (hg g (by simp)), ih (fun x hx => hg x (List.mem_cons_of_mem _ hx)), eb]
    rw [List.flatten_cons, List.length_cons, List.append_assoc]
    congr 1
    · omega
    · omega
    · rw [if_neg (List.cons_ne_nil g gs)]
      by_cases h : gs = []
      · subst h; simp [logBytes, logFrames, frames]
      · rw [if_neg h]; omega
/-- Records without a marker are no group. -/
theorem goodGo_open (g op : List (List UInt8)) (a : Nat) (r : List (List UInt8)) (n z : Nat) : goodGo (g.map (114 :: ·)) op a r n z = (r, n, z) := by
  have := goodGo_recs g [] op a r n z
  rw [List.append_nil] at this
  rw [this]; rfl

theorem logFrames_short (gs : List (List (List UInt8))) (hg : ∀ g ∈ gs, Fits g) (hv : ∀ g ∈ gs, (varint (2 * g.length)).length < 60000) : ∀ s ∈ logFrames gs, s.length ≤ 60000 := by
  intro s hs
  obtain ⟨g, hgm, hs⟩ := List.mem_flatMap.1 hs
  unfold groupFrames at hs
  rcases List.mem_append.1 hs with h | h
  · obtain ⟨x, hx, rfl⟩ := List.mem_map.1 h
    have := (hg g hgm).2 x hx
    rw [List.length_cons]; omega
  · obtain rfl := List.mem_singleton.1 h
    have := hv g hgm
    rw [List.length_cons]; omega

theorem varint_short (m : Nat) (h : m ≤ 1000000) : (varint m).length ≤ 3 := by
  by_cases h1 : m < 128
  · rw [varint_small h1]; simp
  · rw [varint_big h1, List.length_cons]
    by_cases h2 : m / 128 < 128
    · rw [varint_small h2]; simp
    · rw [varint_big h2, List.length_cons, varint_small (by omega)]; simp
theorem logFrames_fit {gs : List (List (List UInt8))} (hg : ∀ g ∈ gs, Fits g) : ∀ s ∈ logFrames gs, s.length ≤ 60000 :=
  logFrames_short gs hg fun g hgm => by
    have := varint_short (2 * g.length) (by have := (hg g hgm).1; omega)
    omega

theorem good_log (gs : List (List (List UInt8))) (hg : ∀ g ∈ gs, Fits g) (t : List UInt8) (o : List (List UInt8)) (ht : (scan t).1 = o.map (114 :: ·)) :
    goodOf (logBytes gs ++ t) = (gs.flatten, gs.length, (logBytes gs).length) := by
  unfold goodOf
  rw [show (scan (logBytes gs ++ t)).1 = logFrames gs ++ o.map (114 :: ·) by
    unfold logBytes
    rw [scan_frames _ _ (logFrames_fit hg), ht]]
  rw [goodGo_log gs hg, goodGo_open]
  simp only [List.nil_append, Nat.zero_add]
  by_cases h : gs = []
  · subst h; simp [logBytes, logFrames, frames]
  · rw [if_neg h]

/-- All groups, and fewer than eight bytes behind them. -/
theorem good_tail (gs : List (List (List UInt8))) (hg : ∀ g ∈ gs, Fits g) (t : List UInt8) (ht : t.length < 8) : goodOf (logBytes gs ++ t) = (gs.flatten, gs.length, (logBytes gs).length) :=
  good_log gs hg t [] (by rw [scan_short _ ht]; rfl)
theorem good_all (gs : List (List (List UInt8))) (hg : ∀ g ∈ gs, Fits g) : goodOf (logBytes gs) = (gs.flatten, gs.length, (logBytes gs).length) := by
  have := good_tail gs hg [] (by simp)
  rwa [List.append_nil] at this
/-- A group that is cut is none. -/
theorem good_cut (gs : List (List (List UInt8))) (hg : ∀ g ∈ gs, Fits g) (g : List (List UInt8)) (hf : Fits g) (cut : Nat) (hc : cut < (groupBytes g).length) :
    goodOf (logBytes gs ++ (groupBytes g).take cut) = (gs.flatten, gs.length, (logBytes gs).length) := by
  have hfit : ∀ s ∈ groupFrames g, s.length ≤ 60000 := by
    have := logFrames_fit (gs := [g]) (by intro x hx; obtain rfl := List.mem_singleton.1 hx; exact hf)
    intro s hs
    exact this s (by unfold logFrames; rw [List.flatMap_cons]; exact List.mem_append.2 (.inl hs))
  obtain ⟨k, hk, hr⟩ := scan_cut (groupFrames g) hfit cut (by rw [← groupBytes_eq]; omega)
  rw [← groupBytes_eq] at hr
  have hkl : k ≤ g.length := by
    rcases Nat.lt_or_ge g.length k with h | h
    · exfalso
      have hlen : (groupFrames g).length = g.length + 1 := by unfold groupFrames; simp
      have h1 : (groupFrames g).take k = groupFrames g := List.take_of_length_le (by omega)
      have h2 := (scan_spec ((groupBytes g).take cut)).2
      have h3 := h2.2.2
      rw [hr, h1, ← groupBytes_eq] at h3
      have h4 := h2.1
      rw [List.length_take] at h4
      omega
    · exact h
  refine good_log gs hg _ (g.take k) ?_
  rw [hr]
  unfold groupFrames
  rw [List.take_append_of_le_length (by rw [List.length_map]; exact hkl), List.map_take]

end Go.Proofs.YtncpeaamfmfcgaaGreat
