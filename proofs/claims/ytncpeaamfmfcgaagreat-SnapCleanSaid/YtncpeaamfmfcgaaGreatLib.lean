/- Words that walks share: copies of texts, appends of texts, what lies below. -/
import Derived.Test.YtncpeaamfmfcgaaGreatBase
import Derived.Test.YtncpeaamfmfcgaaGreatShelf
namespace Go.Proofs.YtncpeaamfmfcgaaGreat
open Go.RowKit

theorem grown_of_below {w w' : World} (hb : Below w.heap.size w w') : w.grownBy w' none := ⟨hb.os, hb.tape, hb.output, hb.size, fun k hk _ => hb.block k hk⟩

/-- What is made and then made on lies behind what was there first. -/
theorem below_step {w w1 w2 : World} (h1 : Below w.heap.size w w1) (h2 : Below w1.heap.size w1 w2) : Below w.heap.size w w2 := h1.trans (h2.mono h1.size)
theorem below_alloc {w w1 : World} (h1 : Below w.heap.size w w1) (o : Obj) : Below w.heap.size w (w1.alloc o) := h1.alloc h1.size o

theorem infoString : (Tryz.prog.info? 9).map (fun i => (i.zero, i.size, i.bytes)) = some (some (.string ByteArray.empty), 1, 16) := by kernel_rfl

set_option maxHeartbeats 1000000 in
theorem clone_any (s : ByteArray) (w : World) (hs : s.size ≤ 281474976710656) :
    Calls Tryz.prog 36 #[.string s] w fun e w' => e = .returned (.string s) ∧ Below w.heap.size w w' := by
  go_enter Tryz.func36, Tryz.ntmps36
  go_wp2_with fail
  refine (Tryz.stringslite_Clone s w hs).mono ?_
  rintro e w1 ⟨rfl, hb⟩
  go_wp2
  go_ret
  exact ⟨rfl, hb⟩

/-- What the call owns as a row of texts reads as these texts. -/
theorem strs_of_own {w : World} {base : Nat} {e : TypeId} {v : Value} {l : List ByteArray} (h : w.ownsRow base e 1 v l.length (l.map Value.string)) : Strs w v l := by
  rcases h.2 with ⟨rfl, h0⟩ | ⟨g, cap, cur, rfl, _, hg, hn, _, hc, ht⟩
  · obtain rfl := List.eq_nil_of_length_eq_zero h0
    exact Strs.nil w
  · refine Strs.of (Array.getElem?_eq_some_iff.1 hg).1 hn fun k hk => ?_
    have h1 := h.cells (g := g) rfl k (.string l[k]) (by rw [List.getElem?_map, List.getElem?_eq_getElem hk]; rfl)
    have hadd : (⟨g, 0, none⟩ : Addr).add k = ⟨g, 0 + k, none⟩ := by unfold Addr.add; split <;> simp_all
    rwa [hadd] at h1

/-- An append whose run is known, guarded or not. -/
theorem wpList_append_run {P : Program} {w : World} {ops : Array Oper} {rest : List Oper} {o : Oper} {a : Act} {Q : Exit → Act → World → Prop} (hw : Region.wanted o (yielded ops a.tmps) = true) (s x : Operand) (t : TypeId)
    (ho : o.op = .call { callee := .builtin .append, args := #[s, x], argTypes := #[t, t] }) (u v u' : Value) (w' : World) (hs : a.eval s = u) (hx : a.eval x = v)
    (hrun : (Builtin.append_ #[t, t] o.type #[u, v]).run P w = .ok u' w') (h : wpList P ops Q rest (a.put o.dst u') w') : wpList P ops Q (o :: rest) a w := by
  refine wpList_step fun K hK => ?_
  rw [if_pos hw]
  unfold Oper.wp
  simp [execOp, ho, resolve, invoke, builtin, hs, hx, hrun, Result.andThen]
  exact hK _ _ h

set_option maxRecDepth 100000 in
/-- append(u, v...) of texts, u the call's own: the texts of the one and of the other. -/
theorem run_append_texts (w : World) (base : Nat) (ty : TypeId) (u : Value) (xs : List ByteArray) (hown : w.ownsRow base 9 1 u xs.length (xs.map Value.string)) (v : Value) (l : List ByteArray) (hv : Strs w v l)
    (hn : xs.length + l.length ≤ 1000000000) (hbase : base ≤ w.heap.size) :
    ∃ u' w', (Builtin.append_ #[22, 22] ty #[u, v]).run Tryz.prog w = .ok u' w' ∧ w'.ownsRow base 9 1 u' (xs ++ l).length ((xs ++ l).map Value.string) ∧ w.grownBy w' u.ownBlock ∧ Strs w' u' (xs ++ l) := by
  obtain ⟨i0, hi, hz0, hz1, hz2⟩ := info_parts infoString
  have go : ∀ (ad : Addr) (c : Nat), v = .slice (some ad) l.length c → (∀ j x, (l.map Value.string)[j]? = some x → w.cell? (ad.add j) = some x) →
      ∃ u' w', (Builtin.append_ #[22, 22] ty #[u, v]).run Tryz.prog w = .ok u' w' ∧ w'.ownsRow base 9 1 u' (xs ++ l).length ((xs ++ l).map Value.string) ∧ w.grownBy w' u.ownBlock ∧ Strs w' u' (xs ++ l) := by
    intro ad c hvv hcell
    obtain ⟨u', w', h1, h2, h3, _⟩ := run_append_own (P := Tryz.prog) w base 22 ty 9 i0 (.string ByteArray.empty) 1 16 Tryz.underlying22 hi hz0 hz1 hz2 rfl (by decide) u xs.length (xs.map Value.string) hown ad l.length c (l.map Value.string) (by simp) hcell
      (by intro x hx; obtain ⟨s, _, rfl⟩ := List.mem_map.1 hx; rfl) (by unfold maxLen; omega) (by omega) hbase
    rw [hvv]
    have h2' : w'.ownsRow base 9 1 u' (xs ++ l).length ((xs ++ l).map Value.string) := by rw [List.length_append, List.map_append]; exact h2
    exact ⟨u', w', h1, h2', h3, strs_of_own h2'⟩
  obtain ⟨a, cap, rfl, hl, hnone, hc⟩ := hv
  cases a with
  | some ad =>
    refine go ad cap rfl fun j x hj => ?_
    have hj' : j < l.length := by
      have := (List.getElem?_eq_some_iff.1 hj).1
      simpa using this
    obtain ⟨b, off, he, _, h1⟩ := hc j hj'
    injection he with he
    subst he
    rw [List.getElem?_map, List.getElem?_eq_getElem hj'] at hj
    injection hj with hj
    subst hj
    have hadd : (⟨b, off, none⟩ : Addr).add j = ⟨b, off + j, none⟩ := by unfold Addr.add; split <;> simp_all
    rw [hadd]; exact h1
  | none =>
    have h0 := hnone rfl
    have hl0 : l = [] := List.eq_nil_of_length_eq_zero (by omega)
    subst hl0
    subst h0
    refine ⟨u, w, run_append_owned_none (P := Tryz.prog) (w := w) base 22 ty 9 i0 1 Tryz.underlying22 hi u _ _ hown, by simpa using hown, ⟨rfl, rfl, rfl, Nat.le_refl _, fun _ _ _ => rfl⟩, ?_⟩
    rw [List.append_nil]; exact strs_of_own hown

end Go.Proofs.YtncpeaamfmfcgaaGreat
