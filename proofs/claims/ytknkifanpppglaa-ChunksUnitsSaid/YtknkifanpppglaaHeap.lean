/- How a chunk, its references, the program's table and the reference's table lie in memory. -/
import Derived.Test.YtknkifanpppglaaMap
namespace Go.Proofs.Ytknkifanpppglaa
open Go.RowKit

def Ck.cells (c : Ck) (rv : Value) : List Value :=
  .int .i64 c.id :: (c.dig.map (Value.int .u8) ++ [.int .u32 c.print, .int .i64 c.pos.row, .int .i64 c.pos.group, .int .i64 c.pos.unit, .bool c.lost, rv])
def refCells (x : Int × Int) : List Value := [.int .i64 x.1, .int .i64 x.2]

theorem Ck.cells_len {c : Ck} {rv : Value} : (c.cells rv).length = c.dig.length + 7 := by simp [Ck.cells]
theorem Ck.c0 (c : Ck) (rv : Value) : (c.cells rv)[0]? = some (.int .i64 c.id) := rfl
theorem Ck.cd {c : Ck} (rv : Value) (j : Nat) (x : Int) (hj : c.dig[j]? = some x) : (c.cells rv)[1 + j]? = some (.int .u8 x) := by
  have := (List.getElem?_eq_some_iff.1 hj).1
  rw [Nat.add_comm]
  simp [Ck.cells, List.getElem?_append, this]
  exact (List.getElem?_eq_some_iff.1 hj).2
theorem Ck.ct {c : Ck} (h : c.dig.length = 16) (rv : Value) (j : Nat) (hj : 17 ≤ j) :
    (c.cells rv)[j]? = [.int .u32 c.print, .int .i64 c.pos.row, .int .i64 c.pos.group, .int .i64 c.pos.unit, .bool c.lost, rv][j - 17]? := by
  obtain ⟨k, rfl⟩ : ∃ k, j = 17 + k := ⟨j - 17, by omega⟩
  rw [show 17 + k = (16 + k) + 1 by omega]
  simp [Ck.cells, List.getElem?_append, h]
  omega
theorem Ck.c17 {c : Ck} (h : c.dig.length = 16) (rv : Value) : (c.cells rv)[17]? = some (.int .u32 c.print) := Ck.ct h rv 17 (by omega)
theorem Ck.c18 {c : Ck} (h : c.dig.length = 16) (rv : Value) : (c.cells rv)[18]? = some (.int .i64 c.pos.row) := Ck.ct h rv 18 (by omega)
theorem Ck.c19 {c : Ck} (h : c.dig.length = 16) (rv : Value) : (c.cells rv)[19]? = some (.int .i64 c.pos.group) := Ck.ct h rv 19 (by omega)
theorem Ck.c20 {c : Ck} (h : c.dig.length = 16) (rv : Value) : (c.cells rv)[20]? = some (.int .i64 c.pos.unit) := Ck.ct h rv 20 (by omega)
theorem Ck.c21 {c : Ck} (h : c.dig.length = 16) (rv : Value) : (c.cells rv)[21]? = some (.bool c.lost) := Ck.ct h rv 21 (by omega)
theorem Ck.c22 {c : Ck} (h : c.dig.length = 16) (rv : Value) : (c.cells rv)[22]? = some rv := Ck.ct h rv 22 (by omega)

/-- rv reads as the references r -/
def Refs (w : World) (rv : Value) (r : List (Int × Int)) : Prop := Own w 113 2 rv (r.map refCells)
/-- lv reads as chunks, each with the value of its references -/
def Chunks (w : World) (lv : Value) (cs : List (Ck × Value)) : Prop :=
  Own w 45 23 lv (cs.map fun p => p.1.cells p.2) ∧ ∀ p ∈ cs, Refs w p.2 p.1.refs

def cksOf (cs : List (Ck × Value)) : List Ck := cs.map (·.1)

/-- the program's table -/
def Tab (w : World) (tb mb : Nat) (lv : Value) (l : List Ck) : Prop :=
  ∃ cs M, w.heap[tb]? = some (.cells #[lv, .map (some mb)] 120 (0, 0)) ∧ Chunks w lv cs ∧ cksOf cs = l ∧ MapIs w mb M ∧ (∀ u, mget M u = atU l u) ∧ Inv l
/-- the reference's table -/
def RTab (w : World) (rb : Nat) (lv : Value) (l : List Ck) : Prop :=
  ∃ cs, w.heap[rb]? = some (.cells #[lv] 34 (0, 0)) ∧ Chunks w lv cs ∧ cksOf cs = l ∧ Inv l

/-- none of the blocks S holds references -/
def NoRefs (w : World) (S : List Nat) : Prop := ∀ b ∈ S, ∀ cur fr, w.heap[b]? ≠ some (.cells cur 113 fr)

theorem Refs.mod {S : List Nat} {w w' : World} (hm : Mod S w w') (hn : NoRefs w S) {rv : Value} {r : List (Int × Int)} (h : Refs w rv r) : Refs w' rv r := by
  refine Own.mod hm h fun b hb hS => ?_
  rcases Own.shape h with ⟨h1, _⟩ | ⟨b', cap, cur, h1, _, _, _, h5, _⟩
  · rw [h1] at hb; simp [Value.ownBlock] at hb
  · rw [h1] at hb; simp [Value.ownBlock] at hb; subst hb
    exact hn _ hS _ _ h5

theorem Chunks.mod {S : List Nat} {w w' : World} (hm : Mod S w w') (hn : NoRefs w S) {lv : Value} {cs : List (Ck × Value)} (h : Chunks w lv cs) (hb : ∀ b, lv.ownBlock = some b → b ∉ S) : Chunks w' lv cs :=
  ⟨Own.mod hm h.1 hb, fun p hp => (h.2 p hp).mod hm hn⟩

theorem Tab.mod {S : List Nat} {w w' : World} (hm : Mod S w w') (hn : NoRefs w S) {tb mb : Nat} {lv : Value} {l : List Ck} (h : Tab w tb mb lv l) (h1 : tb ∉ S) (h2 : mb ∉ S) (hb : ∀ b, lv.ownBlock = some b → b ∉ S) : Tab w' tb mb lv l := by
  obtain ⟨cs, M, a1, a2, a3, a4, a5⟩ := h
  exact ⟨cs, M, hm.heap a1 h1, a2.mod hm hn hb, a3, a4.mod hm h2, a5⟩

theorem RTab.mod {S : List Nat} {w w' : World} (hm : Mod S w w') (hn : NoRefs w S) {rb : Nat} {lv : Value} {l : List Ck} (h : RTab w rb lv l) (h1 : rb ∉ S) (hb : ∀ b, lv.ownBlock = some b → b ∉ S) : RTab w' rb lv l := by
  obtain ⟨cs, a1, a2, a3⟩ := h
  exact ⟨cs, hm.heap a1 h1, a2.mod hm hn hb, a3⟩

theorem NoRefs.one {w : World} {b : Nat} {cur : Array Value} {t : TypeId} {fr : Nat × Nat} (h : w.heap[b]? = some (.cells cur t fr)) (ht : t ≠ 113) : NoRefs w [b] := by
  intro b' hb' cur' fr' h'
  simp at hb'
  subst hb'
  rw [h] at h'
  cases h'
  exact ht rfl
theorem NoRefs.map {w : World} {mb : Nat} {M : List (U3 × Int)} (h : MapIs w mb M) : NoRefs w [mb] := by
  intro b hb cur fr h'
  obtain ⟨es, cl, h1, _⟩ := h
  simp at hb
  subst hb
  rw [h1] at h'
  cases h'
theorem NoRefs.nil (w : World) : NoRefs w [] := fun b hb => by simp at hb
theorem Tab.mod0 {w w' : World} (hm : Mod [] w w') {tb mb : Nat} {lv : Value} {l : List Ck} (h : Tab w tb mb lv l) : Tab w' tb mb lv l := h.mod hm (NoRefs.nil w) (by simp) (by simp) (by simp)
theorem RTab.mod0 {w w' : World} (hm : Mod [] w w') {rb : Nat} {lv : Value} {l : List Ck} (h : RTab w rb lv l) : RTab w' rb lv l := h.mod hm (NoRefs.nil w) (by simp) (by simp)
theorem Refs.mod0 {w w' : World} (hm : Mod [] w w') {rv : Value} {r : List (Int × Int)} (h : Refs w rv r) : Refs w' rv r := h.mod hm (NoRefs.nil w)
theorem Chunks.mod0 {w w' : World} (hm : Mod [] w w') {lv : Value} {cs : List (Ck × Value)} (h : Chunks w lv cs) : Chunks w' lv cs := h.mod hm (NoRefs.nil w) (by simp)

/-- the shape of a slice of chunks, and its rows -/
theorem Chunks.shape {w : World} {lv : Value} {cs : List (Ck × Value)} (h : Chunks w lv cs) :
    (lv = .slice none 0 0 ∧ cs = []) ∨ ∃ b cap, lv = .slice (some ⟨b, 0, none⟩) cs.length cap ∧ b < w.heap.size ∧ cs.length ≤ cap ∧ cap ≤ maxLen ∧
      (∀ k p, cs[k]? = some p → Row w b (k * 23) (p.1.cells p.2)) := by
  have h1 := h.1
  rcases Own.shape h1 with ⟨h2, h3⟩ | ⟨b, cap, cur, h2, h3, h4, h5, h6, h7, h8⟩
  · exact .inl ⟨h2, by simpa using h3⟩
  · rw [List.length_map] at h2 h4
    refine .inr ⟨b, cap, h2, h3, h4, h5, fun k p hp => ?_⟩
    rw [h2] at h1
    exact Own.row h1 k _ (by simp [hp])

theorem Chunks.dig {w : World} {lv : Value} {cs : List (Ck × Value)} (h : Chunks w lv cs) {p : Ck × Value} (hp : p ∈ cs) : p.1.dig.length = 16 := by
  have := h.1.1 (p.1.cells p.2) (List.mem_map.2 ⟨p, hp, rfl⟩)
  rw [Ck.cells_len] at this
  omega

theorem Refs.shape {w : World} {rv : Value} {r : List (Int × Int)} (h : Refs w rv r) :
    (rv = .slice none 0 0 ∧ r = []) ∨ ∃ b cap, rv = .slice (some ⟨b, 0, none⟩) r.length cap ∧ b < w.heap.size ∧ r.length ≤ cap ∧ cap ≤ maxLen ∧
      (∀ k x, r[k]? = some x → Row w b (k * 2) (refCells x)) := by
  have h1 : Own w 113 2 rv (r.map refCells) := h
  rcases Own.shape h1 with ⟨h2, h3⟩ | ⟨b, cap, cur, h2, h3, h4, h5, h6, h7, h8⟩
  · exact .inl ⟨h2, by simpa using h3⟩
  · rw [List.length_map] at h2 h4
    refine .inr ⟨b, cap, h2, h3, h4, h5, fun k p hp => ?_⟩
    rw [h2] at h1
    exact Own.row h1 k _ (by simp [hp])

theorem cksOf_len (cs : List (Ck × Value)) : (cksOf cs).length = cs.length := by simp [cksOf]
theorem cksOf_get {cs : List (Ck × Value)} {k : Nat} {p : Ck × Value} (h : cs[k]? = some p) : (cksOf cs)[k]? = some p.1 := by simp [cksOf, h]
theorem cksOf_get' {cs : List (Ck × Value)} {k : Nat} {c : Ck} (h : (cksOf cs)[k]? = some c) : ∃ rv, cs[k]? = some (c, rv) := by
  simp only [cksOf, List.getElem?_map, Option.map_eq_some_iff] at h
  obtain ⟨p, h1, rfl⟩ := h
  exact ⟨p.2, h1⟩

/-- the chunk at a place that was found: its row and its references -/
theorem Chunks.at {w : World} {b n cap : Nat} {cs : List (Ck × Value)} (h : Chunks w (.slice (some ⟨b, 0, none⟩) n cap) cs) {k : Nat} {c : Ck} (hk : (cksOf cs)[k]? = some c) :
    ∃ rv, cs[k]? = some (c, rv) ∧ Row w b (k * 23) (c.cells rv) ∧ Refs w rv c.refs ∧ c.dig.length = 16 := by
  obtain ⟨rv, hrv⟩ := cksOf_get' hk
  have hm := List.mem_of_getElem? hrv
  rcases h.shape with ⟨h1, _⟩ | ⟨b', cap', h1, _, _, _, hr⟩
  · cases h1
  · cases h1
    exact ⟨rv, hrv, hr k _ hrv, h.2 _ hm, h.dig hm⟩

end Go.Proofs.Ytknkifanpppglaa
