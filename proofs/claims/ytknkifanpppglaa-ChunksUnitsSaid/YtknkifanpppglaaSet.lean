/- A row of an owned slice is written in part. -/
import Derived.Test.YtknkifanpppglaaHeap
namespace Go.Proofs.Ytknkifanpppglaa
open Go.RowKit

theorem splice_mid {α : Type} (A e B cs : List α) (j : Nat) (h : j + cs.length ≤ e.length) : splice (A ++ (e ++ B)) (A.length + j) cs = A ++ (splice e j cs ++ B) := by
  unfold splice
  have h1 : (A ++ (e ++ B)).take (A.length + j) = A ++ e.take j := by
    rw [List.take_append, List.take_of_length_le (by omega), Nat.add_sub_cancel_left, List.take_append_of_le_length (by omega)]
  have h2 : (A ++ (e ++ B)).drop (A.length + j + cs.length) = e.drop (j + cs.length) ++ B := by
    rw [List.drop_append, List.drop_of_length_le (by omega), List.nil_append, show A.length + j + cs.length - A.length = j + cs.length by omega, List.drop_append_of_le_length h]
  rw [h1, h2]
  simp

theorem splice_one {α : Type} (cur : List α) (off : Nat) (u : α) (h : off < cur.length) : splice cur off [u] = cur.set off u := by
  simp only [splice, List.length_singleton, List.singleton_append]
  rw [List.set_eq_take_append_cons_drop, if_pos h]

theorem flatten_parts {es : List (List Value)} {k : Nat} {e : List Value} (h : es[k]? = some e) : es.flatten = (es.take k).flatten ++ (e ++ (es.drop (k + 1)).flatten) := by
  have hk := List.getElem?_eq_some_iff.1 h
  have h1 : es = es.take k ++ e :: es.drop (k + 1) := by
    rw [← hk.2, ← List.drop_eq_getElem_cons hk.1, List.take_append_drop]
  have h2 := congrArg List.flatten h1
  rw [List.flatten_append, List.flatten_cons] at h2
  exact h2

/-- the block of an owned slice -/
theorem Own.block {w : World} {E sz : Nat} {b n cap : Nat} {es : List (List Value)} (h : Own w E sz (.slice (some ⟨b, 0, none⟩) n cap) es) :
    ∃ cur : List Value, w.heap[b]? = some (.cells cur.toArray E (0, 0)) ∧ n = es.length ∧ n ≤ cap ∧ cur.length = cap * sz ∧ cur.take (n * sz) = es.flatten := by
  rcases h.shape with ⟨h1, _⟩ | ⟨b', cap', cur, h1, h2, h3, h4, h5, h6, h7⟩
  · cases h1
  · cases h1
    exact ⟨cur.toList, by simpa using h5, rfl, h3, by simpa using h6, h7⟩

/-- part of row k is written -/
theorem Own.write {w w' : World} {E sz : Nat} {b n cap : Nat} {es : List (List Value)} (h : Own w E sz (.slice (some ⟨b, 0, none⟩) n cap) es) {cur : List Value} (hcur : w.heap[b]? = some (.cells cur.toArray E (0, 0)))
    {k j : Nat} {e cs : List Value} (hk : es[k]? = some e) (hj : j + cs.length ≤ sz) (hw : w'.heap[b]? = some (.cells (splice cur (k * sz + j) cs).toArray E (0, 0))) :
    Own w' E sz (.slice (some ⟨b, 0, none⟩) n cap) (es.set k (splice e j cs)) := by
  obtain ⟨cur', hb, hn, hcap, hlen, htake⟩ := h.block
  rw [hcur] at hb
  have : cur = cur' := by simpa using hb
  subst this
  have hke := List.getElem?_eq_some_iff.1 hk
  have hk1 : k < es.length := hke.1
  have he : e.length = sz := h.1 e (List.mem_of_getElem? hk)
  have hmax : cap ≤ maxLen := by
    rcases h.shape with ⟨h1, _⟩ | ⟨b', cap', cur', h1, h2, h3, h4, _⟩
    · cases h1
    · cases h1; exact h4
  have hle : e.length = (splice e j cs).length := (length_splice e j cs (by omega)).symm
  have hall : ∀ x ∈ es.set k (splice e j cs), x.length = sz := by
    intro x hx
    rcases List.mem_or_eq_of_mem_set hx with hx | hx
    · exact h.1 x hx
    · rw [hx, ← hle, he]
  have hp := flatten_parts hk
  have hA : ((es.take k).flatten).length = k * sz := by
    rw [flatten_length (fun x hx => h.1 x (List.mem_of_mem_take hx)), List.length_take, Nat.min_eq_left (by omega)]
  have hcur2 : cur = (es.take k).flatten ++ (e ++ ((es.drop (k + 1)).flatten ++ cur.drop (n * sz))) := by
    conv => lhs; rw [← List.take_append_drop (n * sz) cur, htake, hp]
    simp
  have hsp : splice cur (k * sz + j) cs = (es.take k).flatten ++ (splice e j cs ++ ((es.drop (k + 1)).flatten ++ cur.drop (n * sz))) := by
    conv => lhs; rw [hcur2, ← hA]
    exact splice_mid _ _ _ _ _ (by omega)
  have hset : (es.set k (splice e j cs))[k]? = some (splice e j cs) := by simp [hke.1]
  have hf2 : (es.set k (splice e j cs)).flatten = (es.take k).flatten ++ (splice e j cs ++ (es.drop (k + 1)).flatten) := by
    rw [flatten_parts hset, List.take_set_of_le (Nat.le_refl _), List.drop_set_of_lt (by omega)]
  have hfl := flatten_length hall
  rw [List.length_set] at hfl
  refine ⟨hall, ?_, .inr ⟨b, cap, _, by rw [List.length_set, hn], Nat.zero_le _, hw, by rw [List.length_set, ← hn]; exact hcap, hmax, ?_, ?_⟩⟩
  · rw [List.length_set]; exact hfl
  · have : k * sz + sz ≤ cur.length := by
      have h1 : (k + 1) * sz ≤ cap * sz := Nat.mul_le_mul_right _ (by omega)
      rw [Nat.add_mul] at h1
      omega
    simp [length_splice cur (k * sz + j) cs (by omega), hlen]
  · rw [List.length_set]
    show (splice cur (k * sz + j) cs).take (es.length * sz) = _
    rw [hf2] at hfl
    rw [hsp, hf2]
    have e2 : (es.take k).flatten ++ (splice e j cs ++ ((es.drop (k + 1)).flatten ++ cur.drop (n * sz))) = ((es.take k).flatten ++ (splice e j cs ++ (es.drop (k + 1)).flatten)) ++ cur.drop (n * sz) := by simp
    rw [e2]
    exact List.take_left' hfl

theorem Chunks.write {w w' : World} {b n cap : Nat} {cs : List (Ck × Value)} (h : Chunks w (.slice (some ⟨b, 0, none⟩) n cap) cs) {S : List Nat} (hm : Mod S w w') (hS : NoRefs w S) {k : Nat} {c' : Ck} {rv' : Value}
    (ho : Own w' 45 23 (.slice (some ⟨b, 0, none⟩) n cap) ((cs.map fun p => p.1.cells p.2).set k (c'.cells rv'))) (hr : Refs w' rv' c'.refs) :
    Chunks w' (.slice (some ⟨b, 0, none⟩) n cap) (cs.set k (c', rv')) := by
  refine ⟨by rw [List.map_set]; exact ho, fun p hp => ?_⟩
  rcases List.mem_or_eq_of_mem_set hp with hp | rfl
  · exact (h.2 p hp).mod hm hS
  · exact hr

theorem cksOf_set (cs : List (Ck × Value)) (k : Nat) (p : Ck × Value) : cksOf (cs.set k p) = (cksOf cs).set k p.1 := by
  simp [cksOf, List.map_set]

theorem Ck.splicePos {c : Ck} (h : c.dig.length = 16) (rv : Value) (u : U3) : splice (c.cells rv) 18 u.cells = ({ c with pos := u } : Ck).cells rv := by
  obtain ⟨id, dig, print, pos, lost, refs⟩ := c
  simp only at h
  match dig, h with
  | [a0, a1, a2, a3, a4, a5, a6, a7, a8, a9, a10, a11, a12, a13, a14, a15], _ => rfl

theorem Ck.spliceLost {c : Ck} (h : c.dig.length = 16) (rv : Value) (x : Bool) : splice (c.cells rv) 21 [.bool x] = ({ c with lost := x } : Ck).cells rv := by
  obtain ⟨id, dig, print, pos, lost, refs⟩ := c
  simp only at h
  match dig, h with
  | [a0, a1, a2, a3, a4, a5, a6, a7, a8, a9, a10, a11, a12, a13, a14, a15], _ => rfl

theorem Ck.spliceRefs {c : Ck} (h : c.dig.length = 16) (rv rv' : Value) (r : List (Int × Int)) : splice (c.cells rv) 22 [rv'] = ({ c with refs := r } : Ck).cells rv' := by
  obtain ⟨id, dig, print, pos, lost, refs⟩ := c
  simp only at h
  match dig, h with
  | [a0, a1, a2, a3, a4, a5, a6, a7, a8, a9, a10, a11, a12, a13, a14, a15], _ => rfl

def foot (tb mb : Nat) (lv : Value) : List Nat := tb :: mb :: lv.ownBlock.toList

theorem Tab.parts {w : World} {tb mb : Nat} {lv : Value} {l : List Ck} (h : Tab w tb mb lv l) : tb ≠ mb ∧ (∀ b, lv.ownBlock = some b → b ≠ tb ∧ b ≠ mb) ∧ NoRefs w (foot tb mb lv) ∧ tb < w.heap.size ∧ mb < w.heap.size ∧ (∀ b, lv.ownBlock = some b → b < w.heap.size) := by
  obtain ⟨cs, M, a1, a2, a3, ⟨es, clock, a4, _⟩, _⟩ := h
  have hl : ∀ b, lv.ownBlock = some b → ∃ cur, w.heap[b]? = some (.cells cur 45 (0, 0)) := by
    intro b hb
    rcases a2.1.shape with ⟨h1, _⟩ | ⟨b', cap', cur', h1, h2, h3, h4, h5, _⟩
    · rw [h1] at hb; simp [Value.ownBlock] at hb
    · rw [h1] at hb; simp [Value.ownBlock] at hb; subst hb; exact ⟨_, h5⟩
  refine ⟨(fun e => by rw [e, a4] at a1; cases a1), fun b hb => ?_, fun b hb cur fr hh => ?_, lt_of_heap a1, lt_of_heap a4, fun b hb => ?_⟩
  · obtain ⟨cur, hc⟩ := hl b hb
    exact ⟨fun e => by (rw [e, a1] at hc; cases hc), fun e => by (rw [e, a4] at hc; cases hc)⟩
  · simp only [foot, List.mem_cons, Option.mem_toList] at hb
    rcases hb with rfl | rfl | hb
    · rw [a1] at hh; cases hh
    · rw [a4] at hh; cases hh
    · obtain ⟨cur', hc⟩ := hl b hb
      rw [hc] at hh; cases hh
  · obtain ⟨cur, hc⟩ := hl b hb
    exact lt_of_heap hc

/-- what a method that changes the table leaves -/
def TabPost (tb mb : Nat) (lv : Value) (l' : List Ck) (v : Value) (w : World) (e : Ending) (w' : World) : Prop :=
  ∃ lv', e = .returned v ∧ Tab w' tb mb lv' l' ∧ Mod (foot tb mb lv) w w' ∧ (lv'.ownBlock = lv.ownBlock ∨ ∃ g, lv'.ownBlock = some g ∧ w.heap.size ≤ g)

end Go.Proofs.Ytknkifanpppglaa
