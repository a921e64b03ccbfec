/- A disk's files, as the map in memory has them: what a look-up, a store and a delete do. -/
import Derived.Test.YtncpeaamfmfcgaaGreatBase
import Derived.Laws.Entries
import Derived.MapKept
namespace Go.Proofs.YtncpeaamfmfcgaaGreat
open Go.RowKit

/-- A file: its name, its bytes, how many of them are synced, and the map's own stamp. -/
structure FE where
  name : ByteArray
  data : ByteArray
  synced : Nat
  born : Nat

def FE.val (f : FE) : Value := .agg #[.string f.data, .int .i64 (f.synced : Int)]
def FE.ent (f : FE) : MapEntry := { key := .string f.name, val := f.val, born := f.born }
/-- The files as the map's block. -/
def mapOf (l : List FE) (clock : Nat) : Obj := .map (l.map FE.ent).toArray clock

def World.put (w : World) (m : Nat) (o : Obj) : World := { w with heap := w.heap.setIfInBounds m o }

theorem put_size (w : World) (m : Nat) (o : Obj) : (World.put w m o).heap.size = w.heap.size := by simp [World.put]
theorem put_same (w : World) (m : Nat) (o : Obj) (h : m < w.heap.size) : (World.put w m o).heap[m]? = some o := by simp [World.put, h]
theorem put_other (w : World) (m : Nat) (o : Obj) (k : Nat) (h : k ≠ m) : (World.put w m o).heap[k]? = w.heap[k]? := by
  simp only [World.put]; rw [Array.getElem?_setIfInBounds_ne (Ne.symm h)]

theorem sameNow_text (a b : ByteArray) : Instr.sameNow .string (.string a) (.string b) = some (decide (a = b)) := by
  simp only [Instr.sameNow]
  congr 1
  rw [Bool.eq_iff_iff, decide_eq_true_iff]
  exact MapKept.bytes_beq a b

theorem findNow_miss (k : ByteArray) : ∀ (l : List FE) (i : Nat), (∀ f ∈ l, f.name ≠ k) → Instr.findNow .string (.string k) (l.map FE.ent) i = some none := by
  intro l
  induction l with
  | nil => intro i _; rfl
  | cons f l ih =>
    intro i h
    simp only [List.map_cons, Instr.findNow]
    rw [show (FE.ent f).key = .string f.name from rfl, sameNow_text, decide_eq_false (fun q => h f (by simp) q.symm)]
    exact ih (i + 1) (fun g hg => h g (by simp [hg]))

theorem findNow_hit (k : ByteArray) (f : FE) (q : List FE) (hf : f.name = k) : ∀ (p : List FE) (i : Nat), (∀ g ∈ p, g.name ≠ k) → Instr.findNow .string (.string k) ((p ++ f :: q).map FE.ent) i = some (some (i + p.length, f.val)) := by
  intro p
  induction p with
  | nil =>
    intro i _
    simp only [List.nil_append, List.map_cons, Instr.findNow]
    rw [show (FE.ent f).key = .string f.name from rfl, sameNow_text, decide_eq_true hf.symm]
    rfl
  | cons g p ih =>
    intro i h
    simp only [List.cons_append, List.map_cons, Instr.findNow]
    rw [show (FE.ent g).key = .string g.name from rfl, sameNow_text, decide_eq_false (fun q => h g (by simp) q.symm)]
    rw [ih (i + 1) (fun x hx => h x (by simp [hx]))]
    simp only [List.length_cons]
    congr 3; omega

section
variable {P : Program} {w : World} {t k e : TypeId} {m clock : Nat} {l : List FE}

theorem run_check (w : World) (hk : P.underlying k = some .string) (b : Bool) (s : ByteArray) : (Instr.checkKey b 10000 k (.string s)).run P w = .ok () w := by
  show (Instr.checkKey b (9999 + 1) k (.string s)).run P w = .ok () w
  rw [Instr.checkKey]
  simp [run_underlying hk]

theorem run_stays (w : World) (s : ByteArray) : (Instr.keyThatStays (.string s) (.string s)).run P w = .ok (.string s) w := by
  have h : Instr.sameBits 10000 (.string s) (.string s) = true := by
    rw [Instr.sameBits]; exact (MapKept.bytes_beq s s).2 rfl
  simp [Instr.keyThatStays, h]

theorem run_find_miss (hk : P.underlying k = some .string) (s : ByteArray) (h : ∀ f ∈ l, f.name ≠ s) : (Instr.findKey k (.string s) (l.map FE.ent)).run P w = .ok none w := by
  have := findNow_miss s l 0 h
  simp only [Instr.findKey, Sem.run_bind, run_underlying hk, Result.andThen, this]
  rfl

theorem run_find_hit (hk : P.underlying k = some .string) (s : ByteArray) (p q : List FE) (f : FE) (hf : f.name = s) (h : ∀ g ∈ p, g.name ≠ s) : (Instr.findKey k (.string s) ((p ++ f :: q).map FE.ent)).run P w = .ok (some (p.length, f.val)) w := by
  have := findNow_hit s f q hf p 0 h
  rw [Nat.zero_add] at this
  simp only [Instr.findKey, Sem.run_bind, run_underlying hk, Result.andThen, this]
  rfl

theorem run_get (hb : w.heap[m]? = some (mapOf l clock)) : (getObj m).run P w = .ok (.map (l.map FE.ent).toArray clock) w := MapKept.run_getObj_map hb
theorem run_set (o : Obj) (hb : w.heap[m]? = some (mapOf l clock)) : (setObj m o).run P w = .ok () (World.put w m o) := MapKept.run_setObj_map o hb

theorem run_look_miss (ht : P.underlying t = some (.map k e)) (hk : P.underlying k = some .string) {z : Value} (hz : (zeroValue e).run P w = .ok z w) (hb : w.heap[m]? = some (mapOf l clock)) (s : ByteArray) (h : ∀ f ∈ l, f.name ≠ s) :
    (Instr.lookup t (.map (some m)) (.string s) true).run P w = .ok (.tuple #[z, .bool false]) w := by
  have hg := run_get (P := P) hb
  simp [Instr.lookup, run_underlying ht, hg, run_check w hk, run_find_miss hk s h, hz]

theorem run_look_hit (ht : P.underlying t = some (.map k e)) (hk : P.underlying k = some .string) (p q : List FE) (f : FE) (hb : w.heap[m]? = some (mapOf (p ++ f :: q) clock)) (s : ByteArray) (hf : f.name = s) (h : ∀ g ∈ p, g.name ≠ s) :
    (Instr.lookup t (.map (some m)) (.string s) true).run P w = .ok (.tuple #[f.val, .bool true]) w := by
  have hg := run_get (P := P) hb
  have hr := run_find_hit (P := P) (w := w) hk s p q f hf h
  clear hf h
  simp [Instr.lookup, run_underlying ht, hg, run_check w hk]
  have hr' := hr
  simp only [List.map_append, List.map_cons] at hr'
  simp [hr']

/-- The same, where nobody asks whether it is there. -/
theorem run_look_hit1 (ht : P.underlying t = some (.map k e)) (hk : P.underlying k = some .string) (p q : List FE) (f : FE) (hb : w.heap[m]? = some (mapOf (p ++ f :: q) clock)) (s : ByteArray) (hf : f.name = s) (h : ∀ g ∈ p, g.name ≠ s) :
    (Instr.lookup t (.map (some m)) (.string s) false).run P w = .ok f.val w := by
  have hg := run_get (P := P) hb
  have hr := run_find_hit (P := P) (w := w) hk s p q f hf h
  clear hf h
  simp [Instr.lookup, run_underlying ht, hg, run_check w hk]
  have hr' := hr
  simp only [List.map_append, List.map_cons] at hr'
  simp [hr']
theorem run_look_miss1 (ht : P.underlying t = some (.map k e)) (hk : P.underlying k = some .string) {z : Value} (hz : (zeroValue e).run P w = .ok z w) (hb : w.heap[m]? = some (mapOf l clock)) (s : ByteArray) (h : ∀ f ∈ l, f.name ≠ s) :
    (Instr.lookup t (.map (some m)) (.string s) false).run P w = .ok z w := by
  have hg := run_get (P := P) hb
  simp [Instr.lookup, run_underlying ht, hg, run_check w hk, run_find_miss hk s h, hz]

theorem store_at (ht : P.underlying t = some (.map k e)) (hk : P.underlying k = some .string) (es : Array MapEntry) (hb : w.heap[m]? = some (.map es clock)) (s : ByteArray) (i : Nat) (e0 : MapEntry) (v0 val : Value)
    (hf : (Instr.findKey k (.string s) es.toList).run P w = .ok (some (i, v0)) w) (hi : es[i]? = some e0) (he : e0.key = .string s) :
    (Instr.mapUpdate t (.map (some m)) (.string s) val).run P w = .ok () (World.put w m (.map (es.modify i fun e => { e with key := .string s, val := val }) clock)) := by
  have hs := run_stays (P := P) w s
  simp [Instr.mapUpdate, run_underlying ht, MapKept.run_getObj_map hb, run_check w hk, hf, hi, he, hs, MapKept.run_setObj_map _ hb, Result.andThen, World.put]

theorem store_new (ht : P.underlying t = some (.map k e)) (hk : P.underlying k = some .string) (es : Array MapEntry) (hb : w.heap[m]? = some (.map es clock)) (s : ByteArray) (val : Value)
    (hf : (Instr.findKey k (.string s) es.toList).run P w = .ok none w) :
    (Instr.mapUpdate t (.map (some m)) (.string s) val).run P w = .ok () (World.put w m (.map (es.push { key := .string s, val := val, born := clock }) (clock + 1))) := by
  simp [Instr.mapUpdate, run_underlying ht, MapKept.run_getObj_map hb, run_check w hk, hf, MapKept.run_setObj_map _ hb, Result.andThen, World.put]

theorem delete_at (ht : P.underlying t = some (.map k e)) (hk : P.underlying k = some .string) (ty : TypeId) (es : Array MapEntry) (hb : w.heap[m]? = some (.map es clock)) (s : ByteArray) (i : Nat) (v0 : Value)
    (hf : (Instr.findKey k (.string s) es.toList).run P w = .ok (some (i, v0)) w) :
    (Builtin.delete_ #[t, k] ty #[.map (some m), .string s]).run P w = .ok (.tuple #[]) (World.put w m (.map (es.eraseIdxIfInBounds i) clock)) := by
  simp [Builtin.delete_, run_underlying ht, MapKept.run_getObj_map hb, run_check w hk, hf, MapKept.run_setObj_map _ hb, Result.andThen, World.put]

theorem modify_mid {α : Type} (p q : List α) (x : α) (g : α → α) : (p ++ x :: q).modify p.length g = p ++ g x :: q := by
  induction p with
  | nil => rfl
  | cons y p ih => simp only [List.cons_append, List.length_cons, List.modify_succ_cons, ih]

/-- A store at a name that is there: the file has other bytes. -/
theorem run_store_hit (ht : P.underlying t = some (.map k e)) (hk : P.underlying k = some .string) (p q : List FE) (f : FE) (hb : w.heap[m]? = some (mapOf (p ++ f :: q) clock)) (hf : ∀ g ∈ p, g.name ≠ f.name) (d : ByteArray) (n : Nat) :
    (Instr.mapUpdate t (.map (some m)) (.string f.name) (.agg #[.string d, .int .i64 (n : Int)])).run P w = .ok () (World.put w m (mapOf (p ++ { f with data := d, synced := n } :: q) clock)) := by
  have hr := run_find_hit (P := P) (w := w) hk f.name p q f rfl hf
  have h := store_at ht hk _ hb f.name p.length f.ent f.val (.agg #[.string d, .int .i64 (n : Int)]) (by rw [List.toList_toArray]; exact hr) (by simp) rfl
  rw [h]
  congr 3
  apply Array.ext'
  rw [Array.toList_modify, List.toList_toArray, List.toList_toArray, List.map_append, List.map_cons]
  have := modify_mid (p.map FE.ent) (q.map FE.ent) f.ent (fun e => { e with key := .string f.name, val := .agg #[.string d, .int .i64 (n : Int)] })
  rw [List.length_map] at this
  rw [this, List.map_append, List.map_cons]; rfl

/-- A store at a name that is not there: one file more, behind the others. -/
theorem run_store_miss (ht : P.underlying t = some (.map k e)) (hk : P.underlying k = some .string) (hb : w.heap[m]? = some (mapOf l clock)) (s : ByteArray) (hf : ∀ g ∈ l, g.name ≠ s) (d : ByteArray) (n : Nat) :
    (Instr.mapUpdate t (.map (some m)) (.string s) (.agg #[.string d, .int .i64 (n : Int)])).run P w = .ok () (World.put w m (mapOf (l ++ [⟨s, d, n, clock⟩]) (clock + 1))) := by
  have hr := run_find_miss (P := P) (w := w) hk s hf
  have h := store_new ht hk _ hb s (.agg #[.string d, .int .i64 (n : Int)]) (by rw [List.toList_toArray]; exact hr)
  rw [h]
  congr 3
  simp [FE.ent, FE.val]

/-- A delete of a name that is there. -/
theorem run_delete_hit (ht : P.underlying t = some (.map k e)) (hk : P.underlying k = some .string) (ty : TypeId) (p q : List FE) (f : FE) (hb : w.heap[m]? = some (mapOf (p ++ f :: q) clock)) (hf : ∀ g ∈ p, g.name ≠ f.name) :
    (Builtin.delete_ #[t, k] ty #[.map (some m), .string f.name]).run P w = .ok (.tuple #[]) (World.put w m (mapOf (p ++ q) clock)) := by
  have hr := run_find_hit (P := P) (w := w) hk f.name p q f rfl hf
  have h := delete_at ht hk ty _ hb f.name p.length f.val (by rw [List.toList_toArray]; exact hr)
  rw [h]
  congr 3
  apply Array.ext'
  rw [Array.eraseIdxIfInBounds]
  split
  · rw [Array.toList_eraseIdx, List.toList_toArray, List.toList_toArray, List.map_append, List.map_cons, List.map_append]
    have : (p.map FE.ent ++ f.ent :: q.map FE.ent).eraseIdx p.length = p.map FE.ent ++ q.map FE.ent := by
      rw [show p.length = (p.map FE.ent).length from (List.length_map _).symm, List.eraseIdx_append_of_length_le (Nat.le_refl _)]
      simp
    exact this
  · rename_i hno
    simp at hno

theorem run_len_files (ht : P.underlying t = some (.map k e)) (ty : TypeId) (hb : w.heap[m]? = some (mapOf l clock)) : (Builtin.len_ #[t] ty #[.map (some m)]).run P w = .ok (.int .i64 (l.length : Int)) w := by
  have hg : (getObj m).run P w = .ok (.map (l.map FE.ent).toArray clock) w := MapKept.run_getObj_map hb
  simp [Builtin.len_, run_underlying ht, hg, Result.andThen, goInt]
end

end Go.Proofs.YtncpeaamfmfcgaaGreat
