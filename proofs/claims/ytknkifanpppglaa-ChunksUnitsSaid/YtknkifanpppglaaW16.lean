/- Walks: Refer. -/
import Derived.Test.YtknkifanpppglaaW15
import Derived.Deep.RegionWith
namespace Go.Proofs.Ytknkifanpppglaa
open Go.RowKit

theorem Refs.isSlice {w : World} {rv : Value} {r : List (Int × Int)} (h : Refs w rv r) : ∃ a n c, rv = .slice a n c := by
  rcases h.shape with ⟨rfl, _⟩ | ⟨b, cap, rfl, _⟩ <;> exact ⟨_, _, _, rfl⟩

set_option maxRecDepth 100000 in
set_option maxHeartbeats 4000000 in
theorem refer_any (w : World) (tb mb : Nat) (lv : Value) (l : List Ck) (id t n : Int) (h : Tab w tb mb lv l) :
    Calls Try.prog 52 #[.pointer (some ⟨tb, 0, none⟩), .int .i64 id, .int .i64 t, .int .i64 n] w (TabPost tb mb lv (referL l id t n).1 (.int .i64 (referL l id t n).2) w) := by
  have HT := Lib.hid h
  clear h
  go_enter Try.func52, Try.ntmps52
  go_wp2_with fail
  refine (change_any _ tb mb lv l id t n HT.out).mono ?_
  rintro e w1 ⟨hm, hf⟩
  rcases hf with ⟨hi, rfl⟩ | ⟨⟨k, hi⟩, hb, rfl⟩ | ⟨k, b, m, cap, hi, hb, rfl, rfl⟩
  · have e1 : referL l id t n = (l, 12) := by simp [referL, hi]
    have HE := Lib.hid e1
    clear hi e1
    go_wp2
    go_ret
    exact ⟨lv, by rw [HE.out]; rfl, by rw [HE.out]; exact HT.out.mod0 hm, hm.nil, .inl rfl⟩
  · have e1 : referL l id t n = (l, 1) := by simp [referL, hi, hb]
    have HE := Lib.hid e1
    clear hi hb e1
    go_wp2
    go_ret
    exact ⟨lv, by rw [HE.out]; rfl, by rw [HE.out]; exact HT.out.mod0 hm, hm.nil, .inl rfl⟩
  · obtain ⟨c, hk, hid, _⟩ := idxOf_some.1 hi
    obtain ⟨ht0, ht1, hn0, hn1⟩ := argsBad_false hb
    obtain ⟨cs, M, a1, a2, a3, a4, a5, a6⟩ := HT.out.mod0 hm
    have a3' := a3
    subst a3'
    obtain ⟨rv, hcs, hrow, hrf, hd⟩ := a2.at hk
    have hok := a6.each c (List.mem_of_getElem? hk)
    have c22 := hrow 22 _ (Ck.c22 hd rv)
    have hrl := hok.len
    have htot := total_take_le (fun x hx => (hok.ref1 x hx).2.2) c.refs.length
    rw [List.take_of_length_le (Nat.le_refl _)] at htot
    have htm := hok.tot
    unfold most at htm
    have hhb := held_bounds (fun x hx => (hok.ref1 x hx).2.2) t
    obtain ⟨cur, hcur, _⟩ := a2.1.block
    have HR := Lib.hid hrf
    have HOk := Lib.hid hok
    have HK := Lib.hid hk
    have HCur := Lib.hid hcur
    have H6 := Lib.hid a6
    have fz : w1.frozen? ⟨b, k * 23 + 22, none⟩ = false := frozen_of_row w1 b _ _ _ hcur
    have e0 : referL (cksOf cs) id t n = if totalL c.refs + n > most then (cksOf cs, 2) else ((cksOf cs).set k { c with refs := withL c.refs t (heldL c.refs t + n) }, 0) := by simp [referL, hi, hb, hk]
    clear hi hk hid hb a1 a2 a3 a4 a5 a6 hcs hrow hrf hd hok hcur M
    by_cases hbig : totalL c.refs + n > most
    · rw [if_pos hbig] at e0
      have HE := Lib.hid e0
      unfold most at hbig
      have hbig' : 2147483647 - totalL c.refs < n := by omega
      clear e0 hbig
      go_wp2_with (go_at_call 99; refine (total_any w1 rv c.refs HR.out (fun x hx => (HOk.out.ref1 x hx).2.2) HOk.out.tot (by omega)).mono ?_; rintro e w2 ⟨rfl, hm2⟩)
      go_ret
      exact ⟨_, by rw [HE.out]; rfl, by rw [HE.out]; exact HT.out.mod0 (hm.trans_nil hm2), (hm.trans_nil hm2).nil, .inl rfl⟩
    · rw [if_neg hbig] at e0
      have HE := Lib.hid e0
      unfold most at hbig
      have hbig' : ¬ 2147483647 - totalL c.refs < n := by omega
      clear e0 hbig
      go_wp2_with (go_at_call 99; refine (total_any w1 rv c.refs HR.out (fun x hx => (HOk.out.ref1 x hx).2.2) HOk.out.tot (by omega)).mono ?_; rintro e w2 ⟨rfl, hm2⟩; have d22 := hm2.cell c22 (by simp); have hr2 := HR.out.mod0 hm2; have HR2 := Lib.hid hr2; clear hr2)
      have hsum : IntKind.i64.wrap (heldL c.refs t + n) = heldL c.refs t + n := IntWalk.i64_in _ (by omega)
      go_region_with (first | (go_at_call 63; refine (held_any _ rv c.refs t (HR2.out.mod0 ((Mod.refl [] w2).drew)) HOk.out.refs (by omega)).mono ?_; rintro e w3 ⟨rfl, hm3⟩; have f22 := hm3.cell (b := b) (o := k * 23 + 22) d22 (by simp)) | (go_at_call 100; refine (with_any _ rv c.refs t (heldL c.refs t + n) ((HR2.out.mod0 ((Mod.refl [] w2).drew)).mod0 hm3) HOk.out.refs HOk.out.refsNe (by omega) (by omega) (by omega)).mono ?_; rintro e w4 ⟨rv', rfl, hr', hm4, _⟩; obtain ⟨sa, sn, sc, rfl⟩ := hr'.isSlice; have g22 := hm4.cell (b := b) (o := k * 23 + 22) f22 (by simp); have hcur4 := hm4.heap (hm3.heap (b := b) (hm2.heap HCur.out (by simp)) (by simp)) (by simp); have fz4 := frozen_of_row w4 b (k * 23 + 22) _ _ hcur4; have HCur4 := Lib.hid hcur4; clear hcur4))
      all_goals
        go_wp2
        go_ret
        have hm4' : Mod [] w w4 := ((((hm.trans_nil hm2).drew).trans_nil hm3).trans_nil hm4)
        have hT4 := HT.out.mod0 hm4'
        have hs : (w4.setCell ⟨b, k * 23 + 22, none⟩ (.slice sa sn sc)).heap[b]? = some (.cells (cur.set (k * 23 + 22) (.slice sa sn sc)).toArray 45 (0, 0)) := by
          rw [heap_setCell_same w4 b (k * 23 + 22) _ _ _ HCur4.out]
          simp
        have hinv := inv_refs H6.out HK.out (t := t) (n := heldL c.refs t + n) ⟨ht0, ht1⟩ (by omega) (with_ne (by omega)) (by unfold most; omega)
        have hmS : Mod [b] w4 (w4.setCell ⟨b, k * 23 + 22, none⟩ (.slice sa sn sc)) := (Mod.refl _ _).setCell _ _ (by simp)
        have hT5 := tab_refs (w := w) hT4 HK.out HCur4.out hs hmS hr' hinv rfl
        exact ⟨_, by rw [HE.out]; rfl, by rw [HE.out]; exact hT5, hm4'.nil.trans hmS (by simp [foot, Value.ownBlock]), .inl rfl⟩

end Go.Proofs.Ytknkifanpppglaa
