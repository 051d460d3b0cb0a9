/- Walks: with. -/
import Derived.Test.YtknkifanpppglaaW13
import Derived.Test.YtknkifanpppglaaSet
import Derived.StillTailTactics
namespace Go.Proofs.Ytknkifanpppglaa
open Go.RowKit

theorem filter_cut {r : List (Int × Int)} {t : Int} {k : Nat} (hr : Rising r) (hc : CutR r t k) :
    r.filter (fun x => decide (x.1 < t)) = r.take k ∧ r.filter (fun x => decide (t < x.1)) = (if foundR r t k then r.drop (k + 1) else r.drop k) := by
  obtain ⟨h1, h2, h3⟩ := hc
  have hsplit : r = r.take k ++ r.drop k := (List.take_append_drop k r).symm
  have ht : ∀ x ∈ r.take k, x.1 < t := by
    intro x hx
    obtain ⟨j, hj, he⟩ := List.getElem_of_mem hx
    rw [List.length_take] at hj
    have : r[j]? = some x := by rw [← he, List.getElem_take]; exact List.getElem?_eq_getElem (by omega)
    exact h2 j x (by omega) this
  have hd : ∀ x ∈ r.drop k, t ≤ x.1 := by
    intro x hx
    obtain ⟨j, hj, he⟩ := List.getElem_of_mem hx
    rw [List.length_drop] at hj
    have : r[k + j]? = some x := by rw [← he, List.getElem_drop]; exact List.getElem?_eq_getElem (by omega)
    exact h3 (k + j) x (by omega) this
  have hd1 : ∀ x ∈ r.drop (k + 1), t < x.1 := by
    intro x hx
    obtain ⟨j, hj, he⟩ := List.getElem_of_mem hx
    rw [List.length_drop] at hj
    have e1 : r[k + 1 + j]? = some x := by rw [← he, List.getElem_drop]; exact List.getElem?_eq_getElem (by omega)
    have e2 := List.getElem?_eq_some_iff.1 e1
    have hk : k < r.length := by omega
    have e3 := h3 k r[k] (Nat.le_refl _) (List.getElem?_eq_getElem hk)
    have e4 := List.pairwise_iff_getElem.1 hr k (k + 1 + j) hk e2.1 (by omega)
    rw [e2.2] at e4
    omega
  constructor
  · conv => lhs; rw [hsplit]
    rw [List.filter_append, List.filter_eq_self.2 (fun x hx => by simpa using ht x hx), List.filter_eq_nil_iff.2 (fun x hx => by have := hd x hx; simp; omega), List.append_nil]
  · conv => lhs; rw [hsplit]
    rw [List.filter_append, List.filter_eq_nil_iff.2 (fun x hx => by have := ht x hx; simp; omega), List.nil_append]
    cases hf : foundR r t k with
    | true =>
      rw [if_pos rfl]
      unfold foundR at hf
      cases hk : r[k]? with
      | none => rw [hk] at hf; simp at hf
      | some p =>
        rw [hk] at hf; simp at hf
        have e := List.getElem?_eq_some_iff.1 hk
        rw [List.drop_eq_getElem_cons e.1, e.2, List.filter_cons, if_neg (by simp; omega), List.filter_eq_self.2 (fun x hx => by simpa using hd1 x hx)]
    | false =>
      rw [if_neg (by simp)]
      rw [List.filter_eq_self]
      intro x hx
      have h4 := hd x hx
      have h5 := (held_of_cut hr ⟨h1, h2, h3⟩).2 hf
      have h6 := h5.2 x (List.mem_of_mem_drop hx)
      simp; omega

theorem withL_ins {r : List (Int × Int)} {t n : Int} {k : Nat} (hr : Rising r) (hc : CutR r t k) (hf : foundR r t k = false) (hn : 0 < n) : withL r t n = r.take k ++ (t, n) :: r.drop k := by
  unfold withL
  rw [(filter_cut hr hc).1, (filter_cut hr hc).2, hf]; simp [hn]
theorem withL_del {r : List (Int × Int)} {t : Int} {k : Nat} (hr : Rising r) (hc : CutR r t k) (hf : foundR r t k = true) : withL r t 0 = r.take k ++ r.drop (k + 1) := by
  unfold withL
  rw [(filter_cut hr hc).1, (filter_cut hr hc).2, hf]; simp
theorem withL_set {r : List (Int × Int)} {t n : Int} {k : Nat} (hr : Rising r) (hc : CutR r t k) (hf : foundR r t k = true) (hn : 0 < n) : withL r t n = r.set k (t, n) := by
  have hk : k < r.length := by
    unfold foundR at hf
    cases hk : r[k]? with
    | none => rw [hk] at hf; simp at hf
    | some p => exact (List.getElem?_eq_some_iff.1 hk).1
  unfold withL
  rw [(filter_cut hr hc).1, (filter_cut hr hc).2, hf, List.set_eq_take_append_cons_drop, if_pos hk]; simp [hn]

theorem Src.takeS' {w : World} {sz b off n c : Nat} {es : List (List Value)} (h : Src w sz (.slice (some ⟨b, off, none⟩) n c) es) (_ : es.length = n) : Src w sz (.slice (some ⟨b, off, none⟩) n n) es := by
  refine ⟨h.1, ?_⟩
  rcases h.2 with ⟨c0, h1, _⟩ | ⟨b', off', c0, h1, hr⟩
  · cases h1
  · cases h1; exact .inr ⟨b, off, es.length, rfl, hr⟩

theorem Refs.oneRows {r : List (Int × Int)} : ∀ q ∈ r.map refCells, ∀ u ∈ q, u.oneCell' = true := oneCell_refs r

set_option maxRecDepth 100000 in
set_option maxHeartbeats 2000000 in
theorem with_any (w : World) (rv : Value) (r : List (Int × Int)) (t n : Int) (h : Refs w rv r) (hr : Rising r) (hne : r ≠ []) (hl : r.length ≤ 5000) (hn : 0 ≤ n) (h0 : n = 0 → ∃ x ∈ r, x.1 = t) :
    Calls Try.prog 100 #[rv, .int .i64 t, .int .i64 n] w (RefsPost (withL r t n) w) := by
  rcases h.shape with ⟨rfl, rfl⟩ | ⟨b, cap, rfl, hb, hc, hm, hrow⟩
  · exact absurd rfl hne
  · have H := Lib.hid h
    have HR := Lib.hid hr
    have HN := Lib.hid hne
    have H0 := Lib.hid h0
    have hlp : 0 < r.length := List.length_pos_iff.2 hne
    have ml : (r.map refCells).length = r.length := by simp
    have ML := Lib.hid ml
    clear h hr hne h0 hrow ml
    go_enter Try.func100, Try.ntmps100
    go_wp2_with fail
    refine (place_any w _ r t H.out HR.out (by omega)).mono ?_
    rintro e w1 ⟨k, hcut, rfl, hm1⟩
    have hk := hcut.1
    have HC := Lib.hid hcut
    clear hcut
    have hr1 := H.out.mod0 hm1
    have HR1 := Lib.hid hr1
    clear hr1
    cases hf : foundR r t k with
    | false =>
      have hnp : 0 < n := by
        rcases Int.lt_or_eq_of_le hn with h | h
        · exact h
        · obtain ⟨x, hx, he⟩ := H0.out h.symm
          exact absurd he (((held_of_cut HR.out HC.out).2 hf).2 x hx)
      have hw := withL_ins HR.out HC.out hf hnp
      have HW := Lib.hid hw
      clear hf hw
      go_wp2_with fail
      refine (insertR_any _ b r.length k w1.heap.size (r.map refCells) (refCells (t, n)) ML.out.symm hk (by omega) ?_ rfl ?_ (oneCell_refs r) ?_).mono ?_
      · exact (Src.takeS' HR1.out.src ML.out).mod ((Mod.refl [] _).alloc _) (by simp)
      · exact Row.of_heap (cs := refCells (t, n)) (heap_alloc_at w1 _)
      · intro u hu; simp [refCells] at hu; rcases hu with rfl | rfl <;> rfl
      · rintro e w2 ⟨v', rfl, hown, hm2, hfr⟩
        have HO := Lib.hid hown
        clear hown
        go_wp2
        go_ret
        refine ⟨v', rfl, ?_, (hm1.alloc _).trans_nil hm2, fun g hg => ?_⟩
        · rw [HW.out]
          simpa [Refs, List.map_take, List.map_drop] using HO.out
        · have h1 := hfr g hg
          have h2 := hm1.size
          simp at h1; omega
    | true =>
      have hkl : k < r.length := by
        unfold foundR at hf
        cases hk : r[k]? with
        | none => rw [hk] at hf; simp at hf
        | some p => exact (List.getElem?_eq_some_iff.1 hk).1
      by_cases hnz : n = 0
      · subst hnz
        have hw := withL_del HR.out HC.out hf
        have HW := Lib.hid hw
        have hw1 : IntKind.i64.wrap ((k : Int) + 1) = (k : Int) + 1 := IntWalk.i64_in _ (by omega)
        have hw2 : (0 : Int) ≤ (k : Int) + 1 := by omega
        have hw3 : ((k : Int) + 1).toNat = k + 1 := by omega
        have hw4 : (k : Int) + 1 ≤ (r.length : Int) := by omega
        have hz : ((0 : Int) == 0) = true := rfl
        have hw5 : (k : Int) ≤ (cap : Int) := by omega
        have hw6 : (0 : Int) ≤ (k : Int) := by omega
        have hw7 : ¬ cap = 0 := by omega
        have hw8 : k ≤ cap := by omega
        have hw9 : k + 1 ≤ r.length := by omega
        clear hf hw
        by_cases hcap : cap = k + 1
        · have hcap1 : ¬ cap = k := by omega
          have hrl : r.length - cap = 0 := by omega
          have hrl2 : r.length ≤ k + 1 := by omega
          have HRL := Lib.hid hrl
          have HRL2 := Lib.hid hrl2
          have HCp := Lib.hid hcap
          have hk1 : k + 1 = cap := hcap.symm
          clear hrl hrl2 hcap
          go_wp2
          go_still_tail 7, (by kernel_rfl)
          go_wp2_with fail
          have hmd : Mod [] w1 ((w1.alloc (.cells #[.slice (some ⟨b, 0, none⟩) k cap, .slice (some ⟨b, 0, none⟩) 0 0] 43)).drew) := ((Mod.refl [] w1).alloc _).drew
          refine (concatR_any _ w1.heap.size (some ⟨b, 0, none⟩) (some ⟨b, 0, none⟩) k cap 0 0 ((r.map refCells).take k) [] ?_ ?_ ((HR1.out.src.takeS k cap (by omega)).mod hmd (by simp)) (Src.empty _ _ _ _ _) ?_ ?_ (by omega) (by omega) (fun q hq => oneCell_refs r q (List.mem_of_mem_take hq)) (by simp)).mono ?_
          · rw [World.cell?_drew, cell_of_row _ w1.heap.size 0 _ _ _ (heap_alloc_at w1 _)]; rfl
          · rw [World.cell?_drew, cell_of_row _ w1.heap.size 1 _ _ _ (heap_alloc_at w1 _)]; rfl
          · rw [List.length_take, ML.out]; omega
          · rfl
          · rintro e w2 ⟨v', rfl, hown, hm2, hfr⟩
            have HO := Lib.hid hown
            clear hown
            go_wp2
            go_ret
            refine ⟨v', rfl, ?_, (hm1.trans_nil hmd).trans_nil hm2, fun g hg => ?_⟩
            · rw [HW.out]
              simpa [Refs, List.map_take, List.map_drop, List.drop_of_length_le HRL2.out] using HO.out
            · have h1 := hfr g hg
              have h2 := hm1.size
              simp at h1; omega
        · have hcap1 : ¬ cap = k := by omega
          go_wp2
          go_still_tail 7, (by kernel_rfl)
          go_wp2_with fail
          have hmd : Mod [] w1 ((w1.alloc (.cells #[.slice (some ⟨b, 0, none⟩) k cap, .slice (some ⟨b, (k + 1) * 2, none⟩) (r.length - (k + 1)) (cap - (k + 1))] 43)).drew) := ((Mod.refl [] w1).alloc _).drew
          refine (concatR_any _ w1.heap.size (some ⟨b, 0, none⟩) (some ⟨b, (k + 1) * 2, none⟩) k cap (r.length - (k + 1)) (cap - (k + 1)) ((r.map refCells).take k) ((r.map refCells).drop (k + 1)) ?_ ?_ ((HR1.out.src.takeS k cap (by omega)).mod hmd (by simp)) ((by simpa using HR1.out.src.dropS (k + 1) (cap - (k + 1)) (by omega) : Src w1 2 (.slice (some ⟨b, (k + 1) * 2, none⟩) (r.length - (k + 1)) (cap - (k + 1))) ((r.map refCells).drop (k + 1))).mod hmd (by simp)) ?_ ?_ (by omega) (by omega) (fun q hq => oneCell_refs r q (List.mem_of_mem_take hq)) (fun q hq => oneCell_refs r q (List.mem_of_mem_drop hq))).mono ?_
          · rw [World.cell?_drew, cell_of_row _ w1.heap.size 0 _ _ _ (heap_alloc_at w1 _)]; rfl
          · rw [World.cell?_drew, cell_of_row _ w1.heap.size 1 _ _ _ (heap_alloc_at w1 _)]; rfl
          · rw [List.length_take, ML.out]; omega
          · rw [List.length_drop, ML.out]
          · rintro e w2 ⟨v', rfl, hown, hm2, hfr⟩
            have HO := Lib.hid hown
            clear hown
            go_wp2
            go_ret
            refine ⟨v', rfl, ?_, (hm1.trans_nil hmd).trans_nil hm2, fun g hg => ?_⟩
            · rw [HW.out]
              simpa [Refs, List.map_take, List.map_drop] using HO.out
            · have h1 := hfr g hg
              have h2 := hm1.size
              simp at h1; omega
      · have hnp : 0 < n := by omega
        have hz : (n == 0) = false := by simpa using hnz
        have hw := withL_set HR.out HC.out hf hnp
        have HW := Lib.hid hw
        have HFd := Lib.hid hf
        clear hf hw hnz
        go_wp2_with fail
        refine (cloneRefs_any w1 _ r HR1.out (by omega)).mono ?_
        rintro e w2 ⟨rv', rfl, hr2, hm2, hfr⟩
        rcases hr2.shape with ⟨rfl, h3⟩ | ⟨b2, cap2, rfl, hb2, hc2, _, _⟩
        · exact absurd h3 HN.out
        · obtain ⟨cur, hcur, hn2, hcap2, hlen2, _⟩ := Own.block hr2
          have hkc : k * 2 + 2 ≤ cur.length := by rw [hlen2]; omega
          have H2 := Lib.hid hr2
          have HCur := Lib.hid hcur
          clear hr2 hcur hn2 hlen2
          go_wp2_with (refine wpList_store1 rfl 3 (.tmp 49) (.tmp 47) rfl info3 b2 (k * 2 + 1) 113 cur (.int .i64 n) rfl rfl HCur.out rfl (by omega) ?_; intro w3 hh3 hm3; have HH3 := Lib.hid hh3; clear hh3)
          go_ret
          obtain ⟨p, hp⟩ : ∃ p, r[k]? = some p := ⟨_, List.getElem?_eq_getElem hkl⟩
          have hke : (r.map refCells)[k]? = some (refCells p) := by simp [hp]
          have ho := Own.write H2.out HCur.out (k := k) (j := 1) (cs := [.int .i64 n]) hke (by simp) (by rw [splice_one _ _ _ (by omega)]; exact HH3.out)
          have hpt : p.1 = t := by
            have h5 := (held_of_cut HR.out HC.out).1
            obtain ⟨m, h6, _⟩ := h5 HFd.out
            rw [hp] at h6; cases h6; rfl
          have e1 : splice (refCells p) 1 [Value.int .i64 n] = refCells (t, n) := by rw [← hpt]; rfl
          rw [e1, ← List.map_set] at ho
          refine ⟨.slice (some ⟨b2, 0, none⟩) r.length cap2, rfl, ?_, (hm1.trans_nil hm2).trans hm3 ?_, fun g hg => ?_⟩
          · rw [HW.out]; exact ho
          · intro x hx; simp at hx; subst hx; right
            have h1 := hfr x rfl
            have h2 := hm1.size
            omega
          · have h1 := hfr g hg
            have h2 := hm1.size
            omega

end Go.Proofs.Ytknkifanpppglaa
