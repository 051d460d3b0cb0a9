/- Walks: change, Refer. -/
import Derived.Test.YtknkifanpppglaaW14
import Derived.Deep.RegionHeld3
namespace Go.Proofs.Ytknkifanpppglaa
open Go.RowKit

def ChangePost (lv : Value) (l : List Ck) (id t n : Int) (w : World) (e : Ending) (w' : World) : Prop :=
  Mod [] w w' ∧ ((idxOf l id = none ∧ e = .returned (.tuple #[.pointer none, .int .i64 12])) ∨ ((∃ k, idxOf l id = some k) ∧ argsBad t n = true ∧ e = .returned (.tuple #[.pointer none, .int .i64 1])) ∨
    ∃ k b m cap, idxOf l id = some k ∧ argsBad t n = false ∧ lv = .slice (some ⟨b, 0, none⟩) m cap ∧ e = .returned (.tuple #[.pointer (some ⟨b, k * 23, none⟩), .int .i64 0]))

set_option maxHeartbeats 1000000 in
theorem change_any (w : World) (tb mb : Nat) (lv : Value) (l : List Ck) (id t n : Int) (h : Tab w tb mb lv l) :
    Calls Try.prog 98 #[.pointer (some ⟨tb, 0, none⟩), .int .i64 id, .int .i64 t, .int .i64 n] w (ChangePost lv l id t n w) := by
  have HT := Lib.hid h
  clear h
  go_enter Try.func98, Try.ntmps98
  go_wp2_with fail
  refine (find_any _ tb mb lv l id HT.out).mono ?_
  rintro e w1 ⟨hm, hf⟩
  rcases hf with ⟨hi, rfl⟩ | ⟨k, b, m, cap, hi, rfl, rfl⟩
  · have HI := Lib.hid hi
    clear hi
    go_wp2
    go_ret2
    exact ⟨hm, .inl ⟨HI.out, rfl⟩⟩
  · have HI := Lib.hid hi
    clear hi
    cases ht : tenB t with
    | false =>
      have hbad : argsBad t n = true := by simp [argsBad, ht]
      have HB := Lib.hid hbad
      have H2 := Lib.hid ht
      clear hbad ht
      go_wp2_with (go_at_call 94; refine (isTenant_any t _).mono ?_; rintro e w2 ⟨rfl, rfl⟩; rw [H2.out])
      go_ret2
      exact ⟨hm, .inr (.inl ⟨⟨k, HI.out⟩, HB.out, rfl⟩)⟩
    | true =>
      have H2 := Lib.hid ht
      by_cases h1 : n < 1
      · have hbad : argsBad t n = true := by simp [argsBad, h1]
        have HB := Lib.hid hbad
        clear hbad ht
        go_wp2_with (go_at_call 94; refine (isTenant_any t _).mono ?_; rintro e w2 ⟨rfl, rfl⟩; rw [H2.out])
        go_ret2
        exact ⟨hm, .inr (.inl ⟨⟨k, HI.out⟩, HB.out, rfl⟩)⟩
      · by_cases h2 : 2147483647 < n
        · have hbad : argsBad t n = true := by simp [argsBad, most, h2]
          have HB := Lib.hid hbad
          clear hbad ht
          go_wp2_with (go_at_call 94; refine (isTenant_any t _).mono ?_; rintro e w2 ⟨rfl, rfl⟩; rw [H2.out])
          go_ret2
          exact ⟨hm, .inr (.inl ⟨⟨k, HI.out⟩, HB.out, rfl⟩)⟩
        · have hbad : argsBad t n = false := by
            unfold argsBad most
            rw [ht, decide_eq_false h1, decide_eq_false h2]
            rfl
          have HB := Lib.hid hbad
          clear hbad ht
          go_wp2_with (go_at_call 94; refine (isTenant_any t _).mono ?_; rintro e w2 ⟨rfl, rfl⟩; rw [H2.out])
          go_ret2
          exact ⟨hm, .inr (.inr ⟨k, b, m, cap, HI.out, HB.out, rfl, rfl⟩)⟩

theorem argsBad_false {t n : Int} (h : argsBad t n = false) : 0 ≤ t ∧ t < 16 ∧ 1 ≤ n ∧ n ≤ 2147483647 := by
  unfold argsBad most at h
  rw [Bool.or_eq_false_iff, Bool.or_eq_false_iff] at h
  obtain ⟨⟨h1, h2⟩, h3⟩ := h
  unfold tenB at h1
  have e2 := of_decide_eq_false h2
  have e3 := of_decide_eq_false h3
  simp at h1
  omega

/-- a chunk's references are changed in the table -/
theorem inv_refs {l : List Ck} (h : Inv l) {k : Nat} {c : Ck} {t n : Int} (hk : l[k]? = some c) (ht : 0 ≤ t ∧ t < 16) (hn : 0 ≤ n) (hne : withL c.refs t n ≠ []) (htot : totalL c.refs - heldL c.refs t + n ≤ most) :
    Inv (l.set k { c with refs := withL c.refs t n }) := by
  have hc := h.each c (List.mem_of_getElem? hk)
  refine inv_set h hk rfl ⟨hc.id1, hc.id2, hc.dig, rising_with hc.refs t n, hne, fun x hx => ?_, by rw [total_with hc.refs t n hn]; exact htot, hc.pos, hc.gone⟩ (fun e j d hj hd e2 => (inv_at.1 h).2.2 j k d c hj hd hk e2 e)
  rcases mem_with hx with h1 | ⟨rfl, h2⟩
  · exact hc.ref1 x h1
  · exact ⟨ht.1, ht.2, by omega⟩

/-- the references' cell of the chunk at k was written -/
theorem tab_refs {w w2 w3 : World} {tb mb b n cap : Nat} {l : List Ck} (hT : Tab w2 tb mb (.slice (some ⟨b, 0, none⟩) n cap) l) {k : Nat} {c : Ck} (hk : l[k]? = some c) {cur : List Value} (hcur : w2.heap[b]? = some (.cells cur.toArray 45 (0, 0)))
    {r : List (Int × Int)} {rv' : Value} (h3 : w3.heap[b]? = some (.cells (cur.set (k * 23 + 22) rv').toArray 45 (0, 0))) (hm : Mod [b] w2 w3) (hr : Refs w2 rv' r) (hi : Inv (l.set k { c with refs := r })) (_ : w = w) :
    Tab w3 tb mb (.slice (some ⟨b, 0, none⟩) n cap) (l.set k { c with refs := r }) := by
  have hp := hT.parts
  obtain ⟨cs, M, a1, a2, a3, a4, a5, a6⟩ := hT
  subst a3
  obtain ⟨rv, hcs, _, _, hd⟩ := a2.at hk
  obtain ⟨cur', hb, hn, hcap, hlen, _⟩ := a2.1.block
  rw [hcur] at hb
  have : cur = cur' := by simpa using hb
  subst this
  have hkl := (List.getElem?_eq_some_iff.1 hcs).1
  have hl : k * 23 + 23 ≤ cur.length := by rw [List.length_map] at hn; omega
  have hke : (cs.map fun p => p.1.cells p.2)[k]? = some (c.cells rv) := by simp [hcs]
  have o3 := Own.write a2.1 hcur (k := k) (j := 22) (cs := [rv']) hke (by simp) (by rw [splice_one _ _ _ (by omega)]; exact h3)
  rw [Ck.spliceRefs hd rv rv' r] at o3
  have hnr : NoRefs w2 [b] := NoRefs.one hcur (by decide)
  have hch := a2.write hm hnr o3 (hr.mod hm hnr)
  have hbt := hp.2.1 b rfl
  exact ⟨_, M, hm.heap a1 (by simpa using fun e => hbt.1 e.symm), hch, by rw [cksOf_set], a4.mod hm (by simpa using fun e => hbt.2 e.symm), agree_refs a5 a6 hk hi, hi⟩

end Go.Proofs.Ytknkifanpppglaa
