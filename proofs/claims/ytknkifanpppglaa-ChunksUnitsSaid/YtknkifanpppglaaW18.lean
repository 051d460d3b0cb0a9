/- Walks: Unrefer. -/
import Derived.Test.YtknkifanpppglaaW17
namespace Go.Proofs.Ytknkifanpppglaa
open Go.RowKit

theorem inv_erase {l : List Ck} (h : Inv l) (k : Nat) : Inv (l.eraseIdx k) :=
  ⟨h.ids.sublist (List.eraseIdx_sublist _ _), fun c hc => h.each c ((List.eraseIdx_sublist _ _).subset hc), h.uniq.sublist (List.eraseIdx_sublist _ _)⟩

theorem agree_erase {M : List (U3 × Int)} {l : List Ck} (hn : (M.map (·.1)).Nodup) (ha : Agree M l) (h : Inv l) {k : Nat} {c : Ck} (hk : l[k]? = some c) : Agree (mleave M c) (l.eraseIdx k) := by
  intro u
  apply opt_ext
  intro i
  rw [mget_leave hn ha h hk, atU_iff (inv_erase h k)]
  constructor
  · rintro ⟨j, d, hne, h1, h2⟩
    have : d ∈ l.eraseIdx k := List.mem_eraseIdx_iff_getElem?.2 ⟨j, hne, h1⟩
    obtain ⟨j', hj', he⟩ := List.getElem_of_mem this
    exact ⟨j', d, by rw [List.getElem?_eq_getElem hj', he], h2⟩
  · rintro ⟨j, d, h1, h2⟩
    obtain ⟨j', hne, hj'⟩ := List.mem_eraseIdx_iff_getElem?.1 (List.mem_of_getElem? h1)
    exact ⟨j', d, hne, hj', h2⟩

theorem infoRefs : (Try.prog.info? 43).map (·.size) = some 1 := by kernel_rfl

theorem infoCks : (Try.prog.info? 32).map (·.size) = some 1 := by kernel_rfl

theorem map_eraseIdx {α β : Type} (f : α → β) : ∀ (l : List α) (k : Nat), (l.map f).eraseIdx k = (l.eraseIdx k).map f
  | [], _ => by simp
  | _ :: _, 0 => by simp
  | _ :: r, k + 1 => by simp [map_eraseIdx f r k]

theorem Chunks.erase {w w' : World} {b n cap m cap' : Nat} {cs : List (Ck × Value)} (h : Chunks w (.slice (some ⟨b, 0, none⟩) n cap) cs) {S : List Nat} (hm : Mod S w w') (hS : NoRefs w S) {k : Nat}
    (ho : Own w' 45 23 (.slice (some ⟨b, 0, none⟩) m cap') ((cs.map fun p => p.1.cells p.2).eraseIdx k)) : Chunks w' (.slice (some ⟨b, 0, none⟩) m cap') (cs.eraseIdx k) :=
  ⟨by rw [map_eraseIdx] at ho; exact ho, fun p hp => (h.2 p ((List.eraseIdx_sublist _ _).subset hp)).mod hm hS⟩

theorem held_pos {r : List (Int × Int)} {t : Int} (h : heldL r t ≠ 0) : ∃ x ∈ r, x.1 = t := by
  unfold heldL at h
  cases hf : r.find? (fun x => x.1 == t) with
  | none => rw [hf] at h; exact absurd rfl h
  | some x => exact ⟨x, List.mem_of_find?_eq_some hf, by simpa using List.find?_some hf⟩

set_option maxRecDepth 100000 in
set_option maxHeartbeats 4000000 in
theorem unrefer_any (w : World) (tb mb : Nat) (lv : Value) (l : List Ck) (id t n : Int) (h : Tab w tb mb lv l) :
    Calls Try.prog 53 #[.pointer (some ⟨tb, 0, none⟩), .int .i64 id, .int .i64 t, .int .i64 n] w (TabPost tb mb lv (unreferL l id t n).1 (.tuple #[.bool (unreferL l id t n).2.1, .int .i64 (unreferL l id t n).2.2]) w) := by
  have HT := Lib.hid h
  clear h
  have hma : Mod [] w (w.alloc (.cells #[.int .i64 id] 3)) := (Mod.refl _ _).alloc _
  go_enter Try.func53, Try.ntmps53
  go_wp2_with fail
  refine (change_any _ tb mb lv l id t n (HT.out.mod0 hma)).mono ?_
  rintro e w1 ⟨hm', hf⟩
  have hm : Mod [] w w1 := hma.trans_nil hm'
  have hib : w1.cell? ⟨w.heap.size, 0, none⟩ = some (.int .i64 id) := hm'.cell (by rw [cell_of_row _ _ _ _ _ _ (heap_alloc_at w _)]; rfl) (by simp)
  clear hma hm'
  rcases hf with ⟨hi, rfl⟩ | ⟨⟨k, hi⟩, hb, rfl⟩ | ⟨k, b, m, cap, hi, hb, rfl, rfl⟩
  · have e1 : unreferL l id t n = (l, false, 12) := by simp [unreferL, hi]
    have HE := Lib.hid e1
    clear hi e1
    go_wp2
    go_ret2
    exact ⟨lv, by rw [HE.out]; rfl, by rw [HE.out]; exact HT.out.mod0 hm, hm.nil, .inl rfl⟩
  · have e1 : unreferL l id t n = (l, false, 1) := by simp [unreferL, hi, hb]
    have HE := Lib.hid e1
    clear hi hb e1
    go_wp2
    go_ret2
    exact ⟨lv, by rw [HE.out]; rfl, by rw [HE.out]; exact HT.out.mod0 hm, hm.nil, .inl rfl⟩
  · obtain ⟨c, hk, hid, hothers⟩ := idxOf_some.1 hi
    obtain ⟨ht0, ht1, hn0, hn1⟩ := argsBad_false hb
    have hparts := HT.out.parts
    have HP := Lib.hid hparts
    obtain ⟨cs, M, a1, a2, a3, a4, a5, a6⟩ := HT.out.mod0 hm
    have a3' := a3
    subst a3'
    obtain ⟨rv, hcs, hrow, hrf, hd⟩ := a2.at hk
    have hok := a6.each c (List.mem_of_getElem? hk)
    have c22 := hrow 22 _ (Ck.c22 hd rv)
    have hrl := hok.len
    have htm := hok.tot
    unfold most at htm
    have hhb := held_bounds (fun x hx => (hok.ref1 x hx).2.2) t
    obtain ⟨cur, hcur, hcn, hcc, hcl, _⟩ := a2.1.block
    have hbl : k * 23 + 23 ≤ cur.length := by have := (List.getElem?_eq_some_iff.1 hcs).1; rw [List.length_map] at hcn; omega
    have hml : m = cs.length := by simpa using hcn
    have hm65 : m ≤ 65536 := by have := inv_len a6; rw [cksOf_len] at this; omega
    have hkm6 : k < m := by have := (List.getElem?_eq_some_iff.1 hcs).1; omega
    clear hml
    have hbl2 : k * 23 + 22 < cur.length := by omega
    have HR := Lib.hid hrf
    have HOk := Lib.hid hok
    have HK := Lib.hid hk
    have HCur := Lib.hid hcur
    have H6 := Lib.hid a6
    have e0 : unreferL (cksOf cs) id t n = if heldL c.refs t - n < 0 then (cksOf cs, false, 12) else if withL c.refs t (heldL c.refs t - n) ≠ [] then ((cksOf cs).set k { c with refs := withL c.refs t (heldL c.refs t - n) }, false, 0) else ((cksOf cs).eraseIdx k, true, 0) := by simp [unreferL, hi, hb, hk]
    have HId := Lib.hid hid
    have HCs := Lib.hid hcs
    have HD := Lib.hid hd
    have H1 := Lib.hid a1
    have H2 := Lib.hid a2
    have H4 := Lib.hid a4
    have H5 := Lib.hid a5
    clear hi hk hid hothers hb a1 a2 a3 a4 a5 a6 hcs hrow hrf hd hok hcur hcn hcc hcl hparts
    by_cases hneg : heldL c.refs t - n < 0
    · rw [if_pos hneg] at e0
      have HE := Lib.hid e0
      clear e0
      go_wp2_with (go_at_call 63; refine (held_any w1 rv c.refs t HR.out HOk.out.refs (by omega)).mono ?_; rintro e w2 ⟨rfl, hm2⟩)
      go_ret2
      exact ⟨_, by rw [HE.out]; rfl, by rw [HE.out]; exact HT.out.mod0 (hm.trans_nil hm2), (hm.trans_nil hm2).nil, .inl rfl⟩
    · rw [if_neg hneg] at e0
      have hex := held_pos (r := c.refs) (t := t) (by omega)
      have HEx := Lib.hid hex
      clear hex
      obtain ⟨r', hr'⟩ : ∃ r', r' = withL c.refs t (heldL c.refs t - n) := ⟨_, rfl⟩
      rw [← hr'] at e0
      have HR' := Lib.hid hr'
      by_cases hemp : r' = []
      · subst hemp
        rw [if_neg (by simp)] at e0
        have HE := Lib.hid e0
        have hbt := HP.out.2.1 b rfl
        have htm' := HP.out.1
        have hbw := HP.out.2.2.2.2.2 b rfl
        have hmw := HP.out.2.2.2.2.1
        have htw := HP.out.2.2.2.1
        clear e0 hr'
        go_wp2_with (first | (go_at_call 63; refine (held_any w1 rv c.refs t HR.out HOk.out.refs (by omega)).mono ?_; rintro e w2 ⟨rfl, hm2⟩; have d22 := hm2.cell c22 (by simp)) | (go_at_call 100; refine (with_any w2 rv c.refs t (heldL c.refs t - n) (HR.out.mod0 hm2) HOk.out.refs HOk.out.refsNe (by omega) (by omega) (fun _ => HEx.out)).mono ?_; rintro e w4 ⟨rv', rfl, hrv', hm4, _⟩; rw [← HR'.out] at hrv'; have hcur4 := hm4.heap (hm2.heap (b := b) HCur.out (by simp)) (by simp); have HCur4 := Lib.hid hcur4; clear hcur4; have HRv := Lib.hid hrv') | (refine wpList_store1 rfl 43 (.tmp 43) (.tmp 41) rfl infoRefs b (k * 23 + 22) 45 cur rv' rfl rfl HCur4.out HRv.out.one hbl2 ?_; intro w5 hh5 hm5; have HH5 := Lib.hid hh5; clear hh5 hrv'; obtain ⟨sa, sc, hsl⟩ := HRv.out.sliceLen; have hv5 : w5.cell? ⟨b, k * 23 + 22, none⟩ = some (.slice sa 0 sc) := (by rw [cell_of_row _ _ _ _ _ _ HH5.out, hsl]; simp [hbl2]); have HSl := Lib.hid hsl; clear hsl))
        have hke : (cs.map fun p => p.1.cells p.2)[k]? = some (c.cells rv) := by simp [HCs.out]
        have hm4' : Mod [] w1 w4 := hm2.trans_nil hm4
        have hkl : k < cs.length := (List.getElem?_eq_some_iff.1 HCs.out).1
        have ho5 := Own.write (H2.out.1.mod hm4' (by simp)) HCur4.out (k := k) (j := 22) (cs := [rv']) hke (by simp) (by rw [splice_one _ _ _ hbl2]; exact HH5.out)
        rw [Ck.spliceRefs HD.out rv rv' []] at ho5
        have row5 : Row w5 b (k * 23) (({ c with refs := [] } : Ck).cells rv') := ho5.row k _ (by simp [hkl])
        have hM5 := (H4.out.mod hm4' (by simp)).mod hm5 (by simpa using fun e => hbt.2 e.symm)
        have htb5 := hm5.heap (hm4'.heap H1.out (by simp)) (b := tb) (by simpa using fun e => hbt.1 e.symm)
        have hib5 := hm5.cell (hm4'.cell hib (by simp)) (by simp; omega)
        have c51 : w5.cell? ⟨tb, 1, none⟩ = some (.map (some mb)) := by rw [cell_of_row _ _ _ _ _ _ htb5]; rfl
        obtain ⟨cs1, hcs1⟩ : ∃ cs1, cs1 = cs.set k ({ c with refs := [] }, rv') := ⟨_, rfl⟩
        have ho51 : Own w5 45 23 (.slice (some ⟨b, 0, none⟩) m cap) (cs1.map fun p => p.1.cells p.2) := by rw [hcs1, List.map_set]; exact ho5
        have O5 := Lib.hid ho51
        clear ho51
        have HM5 := Lib.hid hM5
        have Htb5 := Lib.hid htb5
        clear ho5 hM5 htb5 hke
        have hid6 : ∀ p, cs1[k]? = some p → p.1.id = id := by
          intro p hp
          rw [hcs1, List.getElem?_set_self hkl] at hp
          cases hp
          exact HId.out
        have hoth6 : ∀ (j : Nat) p, j ≠ k → cs1[j]? = some p → p.1.id ≠ id := by
          intro j p hjk hp
          rw [hcs1, List.getElem?_set_ne (Ne.symm hjk)] at hp
          have h2 := cksOf_get hp
          rw [← HId.out]
          rcases Nat.lt_or_gt_of_ne hjk with h | h
          · exact Int.ne_of_lt (ids_lt H6.out h2 HK.out h)
          · exact Int.ne_of_gt (ids_lt H6.out HK.out h2 h)
        have hone6 : ∀ p ∈ cs1, p.2.oneCell' = true := by
          intro p hp
          rw [hcs1] at hp
          rcases List.mem_or_eq_of_mem_set hp with h | rfl
          · exact (H2.out.2 p h).one
          · exact HRv.out.one
        have HCs1 := Lib.hid hcs1
        clear hcs1
        have hne6 : w.heap.size ≠ b := by omega
        have Hid6 := Lib.hid hid6
        have Hoth6 := Lib.hid hoth6
        have Hone6 := Lib.hid hone6
        clear hid6 hoth6 hone6
        go_wp2_with (first | (go_at_call 66; refine (leave_any w5 tb mb b k { c with refs := [] } rv' M c51 row5 HD.out HM5.out).mono ?_; rintro e w6 ⟨rfl, hM6, hm6⟩; have c60 : w6.cell? ⟨tb, 0, none⟩ = some (.slice (some ⟨b, 0, none⟩) m cap) := hm6.cell (by rw [cell_of_row _ _ _ _ _ _ Htb5.out]; rfl) (by simpa using htm'); have HM6 := Lib.hid hM6; clear hM6; have ho6 := O5.out.mod hm6 (by simpa [Value.ownBlock] using hbt.2); have O6 := Lib.hid ho6; clear ho6; have hib6 := hm6.cell hib5 (by simp; omega)) | (go_at_call 101; refine (deleteFunc_any w6 b m cap w.heap.size k cs1 id O6.out hm65 Hone6.out hib6 hne6 hkm6 Hid6.out Hoth6.out).mono ?_; rintro e w7 ⟨rfl, ho7, hm7⟩; have htb7 := hm7.heap (hm6.heap Htb5.out (by simpa using htm')) (b := tb) (by simpa using fun e => hbt.1 e.symm); have Htb7 := Lib.hid htb7; have HO7 := Lib.hid ho7; clear ho7 htb7) | (refine wpList_store1 rfl 32 (.tmp 61) (.tmp 59) rfl infoCks tb 0 120 [.slice (some ⟨b, 0, none⟩) m cap, .map (some mb)] (.slice (some ⟨b, 0, none⟩) (m - 1) cap) rfl rfl Htb7.out rfl (by simp) ?_; intro w8 hh8 hm8; have HH8 := Lib.hid hh8; clear hh8))
        go_ret2
        have hmA : Mod [tb, mb, b] w1 w8 := (((hm4'.nil.trans hm5 (by simp)).trans hm6 (by simp)).trans hm7 (by simp)).trans hm8 (by simp)
        have ho8 := HO7.out.mod hm8 (by simpa [Value.ownBlock] using hbt.1)
        rw [HCs1.out, List.map_set, List.eraseIdx_set_eq] at ho8
        have hch := H2.out.erase hmA (HT.out.mod0 hm).parts.2.2.1 ho8
        have hM8 := (HM6.out.mod hm7 (by simpa using fun e => hbt.2 e.symm)).mod hm8 (by simpa using fun e => htm' e.symm)
        have hT8 : Tab w8 tb mb (.slice (some ⟨b, 0, none⟩) (m - 1) cap) ((cksOf cs).eraseIdx k) := ⟨_, mleave M c, HH8.out, hch, by simp [cksOf, map_eraseIdx], hM8, agree_erase H4.out.nodup H5.out H6.out HK.out, inv_erase H6.out k⟩
        refine ⟨.slice (some ⟨b, 0, none⟩) (m - 1) cap, by rw [HE.out]; rfl, by rw [HE.out]; exact hT8, hm.nil.trans hmA (by simp [foot, Value.ownBlock]), .inl rfl⟩
      · have hrp : 0 < r'.length := List.length_pos_iff.2 hemp
        rw [if_pos hemp] at e0
        have HE := Lib.hid e0
        have HEm := Lib.hid hemp
        clear e0 hemp hr'
        go_wp2_with (first | (go_at_call 63; refine (held_any w1 rv c.refs t HR.out HOk.out.refs (by omega)).mono ?_; rintro e w2 ⟨rfl, hm2⟩; have d22 := hm2.cell c22 (by simp)) | (go_at_call 100; refine (with_any w2 rv c.refs t (heldL c.refs t - n) (HR.out.mod0 hm2) HOk.out.refs HOk.out.refsNe (by omega) (by omega) (fun _ => HEx.out)).mono ?_; rintro e w4 ⟨rv', rfl, hrv', hm4, _⟩; rw [← HR'.out] at hrv'; have hcur4 := hm4.heap (hm2.heap (b := b) HCur.out (by simp)) (by simp); have HCur4 := Lib.hid hcur4; clear hcur4; have HRv := Lib.hid hrv') | (refine wpList_store1 rfl 43 (.tmp 43) (.tmp 41) rfl infoRefs b (k * 23 + 22) 45 cur rv' rfl rfl HCur4.out HRv.out.one hbl2 ?_; intro w5 hh5 hm5; have HH5 := Lib.hid hh5; clear hh5 hrv'; obtain ⟨sa, sc, hsl⟩ := HRv.out.sliceLen; have hv5 : w5.cell? ⟨b, k * 23 + 22, none⟩ = some (.slice sa r'.length sc) := (by rw [cell_of_row _ _ _ _ _ _ HH5.out, ← hsl]; simp [hbl2]); have HSl := Lib.hid hsl; clear hsl))
        go_ret2
        have hm4' : Mod [] w w4 := (hm.trans_nil hm2).trans_nil hm4
        have hT4 := HT.out.mod0 hm4'
        have hinv := inv_refs H6.out HK.out (t := t) (n := heldL c.refs t - n) ⟨ht0, ht1⟩ (by omega) (by rw [← HR'.out]; exact HEm.out) (by unfold most; omega)
        rw [← HR'.out] at hinv
        have hT5 := tab_refs (w := w) hT4 HK.out HCur4.out HH5.out hm5 HRv.out hinv rfl
        exact ⟨_, by rw [HE.out]; rfl, by rw [HE.out]; exact hT5, hm4'.nil.trans hm5 (by simp [foot, Value.ownBlock]), .inl rfl⟩

end Go.Proofs.Ytknkifanpppglaa
