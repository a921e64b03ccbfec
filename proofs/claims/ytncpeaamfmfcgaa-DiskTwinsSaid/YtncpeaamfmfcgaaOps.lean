/- A slice of steps (complinelaw5.Op) in memory, and how such an argument reads. -/
import Derived.Test.YtncpeaamfmfcgaaOpen
import Derived.Deep.Slices
namespace Go.Proofs.Ytncpeaamfmfcgaa
open Go.ChangeShapes Go.WideShapes Go.ChangeAt Go.RowKit Go.Deep
open Go.ChangeMaps (open_string shut_string)

/-- A step: kind, number, two texts, and its slice of numbers. -/
structure OpL where
  kind : Int
  n : Int
  a : ByteArray
  b : ByteArray
  la : Option Addr
  ll : Nat
  lc : Nat
instance : Inhabited OpL := ⟨⟨0, 0, ByteArray.empty, ByteArray.empty, none, 0, 0⟩⟩

structure OpAt (w : World) (g off : Nat) (o : OpL) : Prop where
  kindC : w.cell? ⟨g, off, none⟩ = some (.int .i64 o.kind)
  nC : w.cell? ⟨g, off + 1, none⟩ = some (.int .i64 o.n)
  aC : w.cell? ⟨g, off + 2, none⟩ = some (.string o.a)
  bC : w.cell? ⟨g, off + 3, none⟩ = some (.string o.b)
  lC : w.cell? ⟨g, off + 4, none⟩ = some (.slice o.la o.ll o.lc)
theorem OpAt.later {w w' : World} {g off : Nat} {o : OpL} (h : OpAt w g off o) (hb : g < w.heap.size) (hw : Below w.heap.size w w') : OpAt w' g off o :=
  ⟨(hw.cell (p := ⟨g, off, none⟩) hb).trans h.kindC, (hw.cell (p := ⟨g, off + 1, none⟩) hb).trans h.nC, (hw.cell (p := ⟨g, off + 2, none⟩) hb).trans h.aC, (hw.cell (p := ⟨g, off + 3, none⟩) hb).trans h.bC, (hw.cell (p := ⟨g, off + 4, none⟩) hb).trans h.lC⟩

def OpsIn (w : World) (v : Value) (l : List OpL) : Prop :=
  ∃ a cap, v = .slice a l.length cap ∧ ∀ (k : Nat) (h : k < l.length), ∃ b off, a = some ⟨b, off, none⟩ ∧ b < w.heap.size ∧ OpAt w b (off + k * 5) l[k]
theorem OpsIn.later {w w' : World} {v : Value} {l : List OpL} (h : OpsIn w v l) (hb : Below w.heap.size w w') : OpsIn w' v l := by
  obtain ⟨a, cap, hv, hc⟩ := h
  refine ⟨a, cap, hv, fun k hk => ?_⟩
  obtain ⟨b, off, ha, hlt, h1⟩ := hc k hk
  exact ⟨b, off, ha, Nat.lt_of_lt_of_le hlt hb.size, h1.later hlt hb⟩

/-- What a step's fields may be. -/
structure OpL.Fits (o : OpL) : Prop where
  kind : -9223372036854775808 ≤ o.kind ∧ o.kind ≤ 9223372036854775807
  n : -9223372036854775808 ≤ o.n ∧ o.n ≤ 9223372036854775807
  a : o.a.size ≤ 9223372036854775807
  b : o.b.size ≤ 9223372036854775807
  l : o.ll ≤ 9223372036854775807

theorem open_op {H : Type} {enc : TypeId × Value → H} {W : World} {fuel : Nat} {cs : List Value} {x : DataW H × List MemPlace} (h : DataW.trod enc Try.prog W 0 (fun _ => true) true fuel 48 cs = some x) :
    ∃ o : OpL, cs = [.int .i64 o.kind, .int .i64 o.n, .string o.a, .string o.b, .slice o.la o.ll o.lc] ∧ o.Fits := by
  obtain ⟨xs, n, -, -, hlen, hxl, hf⟩ := DataW.trod_struct Try.underlying48 h
  rw [show Try.prog.cellsOf 48 = 5 by kernel_rfl] at hlen
  match cs, hlen with
  | [c0, c1, c2, c3, c4], _ =>
    match xs, hxl with
    | [y0, y1, y2, y3, y4], _ =>
      have hc3 : Try.prog.cellsOf 3 = 1 := by kernel_rfl
      have hc9 : Try.prog.cellsOf 9 = 1 := by kernel_rfl
      have hc46 : Try.prog.cellsOf 46 = 1 := by kernel_rfl
      have f0 : DataW.trod enc Try.prog W 0 (fun _ => true) true n 3 (([c0, c1, c2, c3, c4].drop 0).take (Try.prog.cellsOf 3)) = some y0 := hf 0 _ rfl
      have f1 : DataW.trod enc Try.prog W 0 (fun _ => true) true n 3 (([c0, c1, c2, c3, c4].drop 1).take (Try.prog.cellsOf 3)) = some y1 := hf 1 _ rfl
      have f2 : DataW.trod enc Try.prog W 0 (fun _ => true) true n 9 (([c0, c1, c2, c3, c4].drop 2).take (Try.prog.cellsOf 9)) = some y2 := hf 2 _ rfl
      have f3 : DataW.trod enc Try.prog W 0 (fun _ => true) true n 9 (([c0, c1, c2, c3, c4].drop 3).take (Try.prog.cellsOf 9)) = some y3 := hf 3 _ rfl
      have f4 : DataW.trod enc Try.prog W 0 (fun _ => true) true n 46 (([c0, c1, c2, c3, c4].drop 4).take (Try.prog.cellsOf 46)) = some y4 := hf 4 _ rfl
      rw [hc3] at f0 f1
      rw [hc9] at f2 f3
      rw [hc46] at f4
      change DataW.trod enc Try.prog W 0 (fun _ => true) true n 3 [c0] = some y0 at f0
      change DataW.trod enc Try.prog W 0 (fun _ => true) true n 3 [c1] = some y1 at f1
      change DataW.trod enc Try.prog W 0 (fun _ => true) true n 9 [c2] = some y2 at f2
      change DataW.trod enc Try.prog W 0 (fun _ => true) true n 9 [c3] = some y3 at f3
      change DataW.trod enc Try.prog W 0 (fun _ => true) true n 46 [c4] = some y4 at f4
      obtain ⟨i0, e0, -, w0⟩ := DataW.trod_int Try.underlying3 f0
      obtain ⟨i1, e1, -, w1⟩ := DataW.trod_int Try.underlying3 f1
      obtain ⟨s2, e2, -, w2⟩ := DataW.trod_string Try.underlying9 f2
      obtain ⟨s3, e3, -, w3⟩ := DataW.trod_string Try.underlying9 f3
      injection e0 with e0 _
      injection e1 with e1 _
      injection e2 with e2 _
      injection e3 with e3 _
      subst e0 e1 e2 e3
      have k0 := int_in w0
      have k1 := int_in w1
      unfold maxLen at w2 w3
      rcases open_slice Try.underlying46 f4 with ⟨e4, -⟩ | ⟨a, len, cap, m, n, D, Pl, e4, -, hl, hm, -⟩
      · injection e4 with e4 _
        subst e4
        exact ⟨⟨i0, i1, s2, s3, none, 0, 0⟩, rfl, k0, k1, by omega, by omega, Nat.zero_le _⟩
      · injection e4 with e4 _
        subst e4
        unfold maxLen at hm
        exact ⟨⟨i0, i1, s2, s3, some a, len, cap⟩, rfl, k0, k1, by omega, by omega, by show len ≤ _; omega⟩

theorem open_ops {H : Type} {enc : TypeId × Value → H} {W : World} {v : Value} {d : DataW H} {p : List MemPlace}
    {base : Nat} (hval : Value.okWide Try.prog W .any base 44 v) (h : DataW.Trod enc Try.prog W 0 (fun _ => true) true 44 v d p) :
    ∃ l, OpsIn W v l ∧ l.length ≤ maxLen ∧ ∀ o ∈ l, o.Fits := by
  obtain ⟨a0, len, cap, rfl⟩ := okWide_slice Try.underlying44 hval
  obtain ⟨fuel, hf⟩ := h
  rcases open_slice Try.underlying44 hf with ⟨hcs, -⟩ | ⟨a, len', cap', m, n, D, Pl, hcs, -, hl, hm, hmm, -, hi⟩
  · simp [Value.cells] at hcs
    obtain ⟨rfl, rfl, rfl⟩ := hcs
    exact ⟨[], ⟨none, 0, rfl, fun k hk => absurd hk (by simp)⟩, Nat.zero_le _, by simp⟩
  · simp [Value.cells] at hcs
    obtain ⟨rfl, rfl, rfl⟩ := hcs
    rw [show Try.prog.cellsOf 48 = 5 by kernel_rfl] at hi
    have hm' : m = cap := by simpa using hmm
    have hx : ∀ i, i < len → ∃ o : OpL, o.Fits ∧ W.cell? ((a.add (i * 5)).add 0) = some (.int .i64 o.kind) ∧ W.cell? ((a.add (i * 5)).add 1) = some (.int .i64 o.n) ∧ W.cell? ((a.add (i * 5)).add 2) = some (.string o.a) ∧ W.cell? ((a.add (i * 5)).add 3) = some (.string o.b) ∧ W.cell? ((a.add (i * 5)).add 4) = some (.slice o.la o.ll o.lc) := by
      intro i hil
      obtain ⟨cs', hc, ht⟩ := hi i (by omega)
      obtain ⟨o, rfl, ho⟩ := open_op ht
      obtain ⟨-, -, hcc⟩ := World.cells?_some hc
      exact ⟨o, ho, hcc 0 (by omega), hcc 1 (by omega), hcc 2 (by omega), hcc 3 (by omega), hcc 4 (by omega)⟩
    let f : Nat → OpL := fun i => if h : i < len then Classical.choose (hx i h) else default
    have hfi : ∀ i (h : i < len), _ := fun i h => (show f i = Classical.choose (hx i h) from dif_pos h) ▸ Classical.choose_spec (hx i h)
    refine ⟨(List.range len).map f, ?_, by rw [List.length_map, List.length_range]; omega, fun o ho => ?_⟩
    · by_cases h0 : len = 0
      · subst h0; exact ⟨some a, cap, rfl, fun k hk => absurd hk (by simp)⟩
      · have h1 := (hfi 0 (by omega)).2.1
        obtain ⟨b, off, spot⟩ := a
        have hsp : spot = none := by
          cases spot with
          | none => rfl
          | some x => simp [Addr.add, World.cell?] at h1; split at h1 <;> simp at h1
        subst hsp
        have hadd1 : ∀ (o i : Nat), (⟨b, o, none⟩ : Addr).add i = ⟨b, o + i, none⟩ := by intro o i; unfold Addr.add; split <;> simp_all
        have hadd : ∀ i j, ((⟨b, off, none⟩ : Addr).add i).add j = ⟨b, off + i + j, none⟩ := fun i j => by rw [hadd1, hadd1]
        refine ⟨some ⟨b, off, none⟩, cap, by rw [List.length_map, List.length_range], fun k hk => ?_⟩
        have hk' : k < len := by simpa using hk
        have h2 := hfi k hk'
        simp only [hadd] at h2
        rw [List.getElem_map, List.getElem_range]
        exact ⟨b, off, rfl, World.block_lt_of_cell? _ _ h2.2.1, ⟨h2.2.1, h2.2.2.1, h2.2.2.2.1, h2.2.2.2.2.1, h2.2.2.2.2.2⟩⟩
    · obtain ⟨i, hi2, rfl⟩ := List.mem_map.1 ho
      exact (hfi i (List.mem_range.1 hi2)).1

end Go.Proofs.Ytncpeaamfmfcgaa
