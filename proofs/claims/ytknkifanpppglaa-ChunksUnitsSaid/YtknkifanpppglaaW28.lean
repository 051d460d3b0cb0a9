/- Walks: Encode's inner function. -/
import Derived.Test.YtknkifanpppglaaW27
import Derived.Deep.RegionLaw
namespace Go.Proofs.Ytknkifanpppglaa
open Go.RowKit

/-- block ob holds the slice v, which owns the bytes xs -/
structure Outv (w : World) (ob : Nat) (v : Value) (xs : List Int) : Prop where
  blk : w.heap[ob]? = some (.cells #[v] 70 (0, 0))
  bytes : Bytes w v xs
  ne : v.ownBlock ≠ some ob

def PutPost (ob : Nat) (v : Value) (xs : List Int) (w : World) (e : Ending) (w' : World) : Prop :=
  e = .returned (.tuple #[]) ∧ ∃ v', Outv w' ob v' xs ∧ Mod (ob :: v.ownBlock.toList) w w' ∧ FreshOr w v v'

theorem oneCell_bytes (xs : List Int) : ∀ q ∈ xs.map (fun x => [Value.int .u8 x]), ∀ u ∈ q, u.oneCell' = true := by
  intro q hq u hu
  obtain ⟨x, _, rfl⟩ := List.mem_map.1 hq
  simp at hu; subst hu; rfl

theorem Bytes.isSlice {w : World} {v : Value} {xs : List Int} (h : Bytes w v xs) : ∃ a n c, v = .slice a n c := Own.isSlice h

theorem FreshOr.trans {w w1 : World} {v v1 v2 : Value} (h : FreshOr w v v1) (h2 : FreshOr w1 v1 v2) (hs : w.heap.size ≤ w1.heap.size) : FreshOr w v v2 := by
  rcases h2 with h2 | ⟨g, h2, h3⟩
  · rcases h with h | ⟨g, h, h3⟩
    · exact .inl (h2.trans h)
    · exact .inr ⟨g, h2.trans h, h3⟩
  · exact .inr ⟨g, h2, by omega⟩

theorem FreshOr.ne {w : World} {v v' : Value} (h : FreshOr w v v') {b : Nat} (hb : b < w.heap.size) (hn : v.ownBlock ≠ some b) : v'.ownBlock ≠ some b := by
  rcases h with h | ⟨g, h, h3⟩
  · rw [h]; exact hn
  · rw [h]; intro e; cases e; omega

theorem heap_setCell1 (w : World) (ob : Nat) (v u : Value) (t : TypeId) (h : w.heap[ob]? = some (.cells #[v] t (0, 0))) : (w.setCell ⟨ob, 0, none⟩ u).heap[ob]? = some (.cells #[u] t (0, 0)) := by
  rw [heap_setCell_same w ob 0 _ _ _ h]; rfl

theorem splice_one1 (v u : Value) : splice [v] 0 [u] = [u] := rfl

theorem step_append_Own {P : Program} {t e size bytes : Nat} (T : STy P t e size bytes) {ops : Array Oper} {o : Oper} {a : Act} {w : World} {K : Act → World → Prop} {Q : Exit → Act → World → Prop} {E : Prop} (hgd : o.guard = none) (s y : Operand)
    (hop : o.op = .call { callee := .builtin .append, args := #[s, y], argTypes := #[t, t] })
    (v x : Value) (hs : a.eval s = v) (hy : a.eval y = x) (es ns : List (List Value)) (ho : Own w e size v es) (hx : Src w size x ns)
    (h1 : ∀ r ∈ ns, ∀ u ∈ r, u.oneCell' = true) (hn : es.length + ns.length ≤ maxLen) (hb : (es.length + ns.length) * bytes ≤ 140737488355328)
    (h : ∀ a' n c w', Own w' e size (.slice a' n c) (es ++ ns) → Mod v.ownBlock.toList w w' → FreshOr w v (.slice a' n c) → K (a.put o.dst (.slice a' n c)) w') :
    if Region.wanted o (yielded ops a.tmps) = true then Oper.wp P o a w K Q else E := by
  have hw : Region.wanted o (yielded ops a.tmps) = true := by simp [Region.wanted, hgd]
  rw [if_pos hw]
  obtain ⟨v', w', hr, h2, h3, h4⟩ := run_append_Own T w o.type v x es ns ho hx h1 hn hb
  obtain ⟨a', n, c, rfl⟩ := Own.isSlice h2
  unfold Oper.wp execOp
  simp only [hop, resolve, invoke, builtin, Sem.run_bind, Sem.run_pure, Result.andThen_ok, List.map_toArray, List.map_cons, List.map_nil, hs, hy, hr]
  exact h a' n c w' h2 h3 h4

set_option maxRecDepth 100000 in
set_option maxHeartbeats 1000000 in
theorem put_any (w : World) (ob g : Nat) (v : Value) (xs ns : List Int) (h : Outv w ob v xs) (hg : ∀ k x, ns[k]? = some x → w.cell? ⟨g, k, none⟩ = some (.int .i64 x)) (hgo : g ≠ ob) (hgv : v.ownBlock ≠ some g)
    (hn : ∀ x ∈ ns, 0 ≤ x ∧ x ≤ 9223372036854775807) (hl : ns.length ≤ 1000) (hx : xs.length ≤ 1000000000000) (cap : Nat) :
    Calls Try.prog 71 #[.slice (some ⟨g, 0, none⟩) ns.length cap, .pointer (some ⟨ob, 0, none⟩)] w (PutPost ob v (xs ++ (ns.map intB).flatten) w) := by
  obtain ⟨n, hnn⟩ : ∃ n, ns.length = n := ⟨_, rfl⟩
  rw [hnn] at hl ⊢
  have hob := lt_of_heap h.blk
  have HO := Lib.hid h
  have HG := Lib.hid hg
  have HN := Lib.hid hn
  have HNN := Lib.hid hnn
  have HGO := Lib.hid hgo
  have HGV := Lib.hid hgv
  clear h hg hn hnn hgo hgv
  go_enter Try.func71, Try.ntmps71
  go_wp2
  go_loopw [4, 7] (fun s4 s7 wr => ∃ k : Nat, k ≤ n ∧ s7 = .int .i64 k ∧ Hid (∃ v', Outv wr ob v' (xs ++ ((ns.take k).map intB).flatten) ∧ Mod (ob :: v.ownBlock.toList) w wr ∧ FreshOr w v v')) (fun _ s7 _ => n - (intOf s7).toNat)
  case atStart => exact ⟨0, by omega, rfl, Lib.hid ⟨v, by simpa using HO.out, Mod.refl _ _, .inl rfl⟩⟩
  case round =>
    obtain ⟨k, hk, rfl, HS⟩ := hrel
    by_cases hlt : k < n
    · obtain ⟨x, hx1⟩ : ∃ x, ns[k]? = some x := ⟨_, List.getElem?_eq_getElem (by have := HNN.out; omega)⟩
      obtain ⟨v', hov, hm, hfr⟩ := HS.out
      have hnx := HN.out x (List.mem_of_getElem? hx1)
      have cx := hm.cell (HG.out k x hx1) (by
        intro hmem
        rcases List.mem_cons.1 hmem with e | e
        · exact HGO.out e
        · exact HGV.out (by simpa using e))
      have c0 : wr.cell? ⟨ob, 0, none⟩ = some v' := by rw [cell_of_row _ _ _ _ _ _ hov.blk]; rfl
      have hbl : (xs ++ ((ns.take k).map intB).flatten).length ≤ 1000000009000 := by
        have e1 : ∀ q : List Int, ((q.map intB).flatten).length ≤ 9 * q.length := by
          intro q
          induction q with
          | nil => simp
          | cons a q ih => have := intB_len a; rw [List.map_cons, List.flatten_cons, List.length_append, List.length_cons]; omega
        have := e1 (ns.take k)
        have h2 := List.length_take_le k ns
        have h3 := List.length_take_le' k ns
        rw [HNN.out] at h3
        simp only [List.length_append]
        omega
      have hix := intB_len x
      have htk : (ns.take (k + 1)).map intB = (ns.take k).map intB ++ [intB x] := by rw [take_snoc' hx1, List.map_append]; rfl
      obtain ⟨sa, sn, sc, rfl⟩ := hov.bytes.isSlice
      have HOV := Lib.hid hov
      have HM := Lib.hid hm
      have HFR := Lib.hid hfr
      have HTK := Lib.hid htk
      have HBL := Lib.hid hbl
      have HIX := Lib.hid hix
      clear hov hm hfr htk hbl hix hx1
      go_wp2
      go_region_law (first | ((refine step_append_Own sty_byte (by rfl) (.tmp 11) (.tmp 13) (by rfl) (.slice sa sn sc) vb (by rfl) (by rfl) _ _ (Bytes.mod0 (((Mod.refl [] wr).drew).trans_nil hm2) HOV.out.bytes) (Own.src hvb) (oneCell_bytes _) (by have := HBL.out; have := HIX.out; simp only [List.length_map, maxLen]; omega) (by have := HBL.out; have := HIX.out; simp only [List.length_map]; omega) ?_; intro ta tn tc w3 hown3 hm3 hfr3; have hblk3 := hm3.heap ((((Mod.refl [] wr).drew).trans_nil hm2).heap HOV.out.blk (by simp)) (by simpa using fun e => HOV.out.ne e); have fz3 := free_of_one hblk3; have ct3 : w3.cell? ⟨ob, 0, none⟩ = some (.slice sa sn sc) := (by rw [cell_of_row _ _ _ _ _ _ hblk3]; rfl); have HB3 := Lib.hid hblk3; clear hblk3)) | (go_simp; go_at_call 70; refine (wireInt_any x _ (by omega) (by omega)).mono ?_; rintro e w2 ⟨vb, rfl, hvb, hm2, hf2⟩; have c02 := ((((Mod.refl [] wr).drew).trans_nil hm2).cell c0 (by simp))))
      all_goals
        go_wp2
        go_roundw
        case rel =>
          have hm12 : Mod [] wr w2 := ((Mod.refl [] wr).drew).trans_nil hm2
          have hfo : FreshOr w2 (.slice sa sn sc) (.slice ta tn tc) := hfr3
          have hne3 : (Value.slice ta tn tc).ownBlock ≠ some ob := hfo.ne (by have := hm12.size; have := lt_of_heap HOV.out.blk; omega) HOV.out.ne
          have hh4 := heap_setCell1 w3 ob _ (.slice ta tn tc) _ HB3.out
          have hm4 : Mod [ob] w3 (w3.setCell ⟨ob, 0, none⟩ (.slice ta tn tc)) := (Mod.refl _ _).setCell _ _ (by simp)
          refine ⟨k + 1, by omega, by go_num, Lib.hid ⟨.slice ta tn tc, ⟨hh4, ?_, hne3⟩, ?_, HFR.out.trans hfo (by have := HM.out.size; have := hm12.size; omega)⟩⟩
          · rw [HTK.out, List.flatten_append, ← List.append_assoc]
            have := Own.mod hm4 hown3 (fun b hb => by simp; intro e; subst e; exact hne3 hb)
            show Own _ _ _ _ _
            rw [List.map_append]
            simpa using this
          · refine HM.out.trans (S' := ob :: (Value.slice sa sn sc).ownBlock.toList) ((hm12.nil.trans hm3 (fun x hx => .inl (List.mem_cons_of_mem _ hx))).trans hm4 (by simp)) (fun x hx => ?_)
            rcases List.mem_cons.1 hx with rfl | hx
            · exact .inl (by simp)
            · rcases HFR.out with e | ⟨q, e, hq⟩
              · rw [e] at hx; exact .inl (List.mem_cons_of_mem _ hx)
              · rw [e] at hx; simp at hx; subst hx; exact .inr hq
        case measure => simp [intOf]; omega
    · obtain rfl : k = n := by omega
      go_wp2
      go_end0
      obtain ⟨v', hov, hm, hfr⟩ := HS.out
      rw [List.take_of_length_le (by have := HNN.out; omega)] at hov
      exact ⟨rfl, v', hov, hm, hfr⟩

end Go.Proofs.Ytknkifanpppglaa
