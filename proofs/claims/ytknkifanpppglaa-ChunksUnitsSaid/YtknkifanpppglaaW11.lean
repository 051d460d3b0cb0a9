/- Walks: Clone of chunks, maps.Clone, (*Table).Clone. -/
import Derived.Test.YtknkifanpppglaaW10
import Derived.Deep.RegionHeld3
namespace Go.Proofs.Ytknkifanpppglaa
open Go.RowKit

theorem sty_ck : STy Try.prog 32 45 23 88 := STy.mk' (z := .agg zeroCells.toArray) Try.underlying32 (by kernel_rfl) rfl (by omega)

theorem oneCell_cks {w : World} {cs : List (Ck × Value)} (h : ∀ p ∈ cs, Refs w p.2 p.1.refs) : ∀ q ∈ cs.map (fun p => p.1.cells p.2), ∀ u ∈ q, u.oneCell' = true := by
  intro q hq u hu
  obtain ⟨p, hp, rfl⟩ := List.mem_map.1 hq
  exact oneCell_ck (h p hp).one u hu

def ChunksPost (cs : List (Ck × Value)) (w : World) (e : Ending) (w' : World) : Prop :=
  ∃ lv', e = .returned lv' ∧ Chunks w' lv' cs ∧ Mod [] w w' ∧ FreshN w.heap.size lv'

theorem cloneCks_any (w : World) (lv : Value) (cs : List (Ck × Value)) (h : Chunks w lv cs) (hl : cs.length ≤ 100000) :
    Calls Try.prog 68 #[lv] w (ChunksPost cs w) := by
  have H := Lib.hid h
  rcases h.shape with ⟨rfl, rfl⟩ | ⟨b, cap, rfl, hb, hc, hm, hr⟩
  · clear h
    have en := fun (w : World) => Lib.run_eql_slice_nil (P := Try.prog) w 32 _ none 0 0 0 0 Try.underlying32
    go_enter Try.func68, Try.ntmps68
    go_wp2
    go_ret
    exact ⟨_, rfl, H.out, Mod.refl _ _, FreshN.nil _⟩
  · clear h hr
    have en := fun (w : World) => Lib.run_eql_slice_nil (P := Try.prog) w 32 _ (some ⟨b, 0, none⟩) cs.length cap 0 0 Try.underlying32
    go_enter Try.func68, Try.ntmps68
    go_wp2_with (at_builtin; refine wpList_append_Own sty_ck rfl (.tmp 5) (.tmp 6) rfl (.slice (some ⟨w.heap.size, 0, none⟩) 0 0) (.slice (some ⟨b, 0, none⟩) cs.length cap) rfl rfl [] (cs.map fun p => p.1.cells p.2) (Own.lit0 _ _ _) (Src.mod ((Mod.refl [] w).alloc _) H.out.1.src (by simp)) (oneCell_cks H.out.2) (by simp [maxLen]; omega) (by simp; omega) ?_; intro v' w1 hown hm1 hfr)
    go_ret
    have hm2 : Mod [] w w1 := ((Mod.refl [] w).alloc _).trans hm1 (by simp [Value.ownBlock])
    rw [List.nil_append] at hown
    refine ⟨v', rfl, ⟨hown, fun p hp => (H.out.2 p hp).mod0 hm2⟩, hm2, fun g hg => ?_⟩
    rcases hfr with h1 | ⟨g', h1, h2⟩
    · rw [h1] at hg; simp [Value.ownBlock] at hg; omega
    · rw [hg] at h1; simp at h1; subst h1; simp at h2; omega

theorem run_typeAssert_map' {P : Program} (t xT k e : TypeId) (v : Value) (w : World) (h : P.underlying t = some (.map k e)) : (Instr.typeAssert (.iface t v) xT t false).run P w = .ok v w := by
  simp [Instr.typeAssert, run_underlying h, go_sem, Result.andThen]

theorem run_maps_clone' {P : Program} (w : World) {r : Nat} {es : Array MapEntry} {clock : Nat} (t : TypeId) (hb : w.heap[r]? = some (.map es clock)) :
    (Extern.MapsClone.clone #[.iface t (.map (some r))]).run P w = .ok (.iface t (.map (some w.heap.size))) (w.alloc (.map es clock)) := by
  have e : Extern.MapsClone.clone #[.iface t (.map (some r))] = (getObj r >>= fun o => match o with
      | .map entries clock => (newObj (.map entries clock) >>= fun n => pure (.iface t (.map (some n))))
      | _ => stuck "maps.clone: a map expected") := rfl
  have hg : (getObj r).run P w = .ok (.map es clock) w := by simp [getObj, Sem.run, hb]
  rw [e]
  simp [hg, Result.andThen, go_sem]

def CloneMapPost (M : List (U3 × Int)) (w : World) (e : Ending) (w' : World) : Prop :=
  ∃ mb', e = .returned (.map (some mb')) ∧ MapIs w' mb' M ∧ Mod [] w w' ∧ w.heap.size ≤ mb'

set_option maxRecDepth 100000 in
set_option maxHeartbeats 2000000 in
theorem cloneMap_any (w : World) (mb : Nat) (M : List (U3 × Int)) (h : MapIs w mb M) :
    Calls Try.prog 69 #[.map (some mb)] w (CloneMapPost M w) := by
  obtain ⟨es, clock, hb, he, hn⟩ := h
  have HE := Lib.hid he
  have HN := Lib.hid hn
  clear he hn
  have hq := fun w => run_eql_map_nil (P := Try.prog) w 118 _ _ (some mb) Try.underlying118
  go_enter Try.func69, Try.ntmps69
  go_wp2
  rw [run_callFunc_extern Try.func110 (by kernel_rfl) (by kernel_rfl) (by kernel_rfl) (e := Extern.MapsClone.clone) (by kernel_rfl), run_maps_clone' w 118 hb]
  simp only [Result.andThen]
  rw [Oper.upon_value]
  go_wp2
  rw [run_typeAssert_map' 118 20 _ _ _ _ Try.underlying118]
  simp only [Result.andThen]
  rw [Oper.upon_value]
  go_wp2
  go_ret
  exact ⟨_, rfl, ⟨es, clock, heap_alloc_at w _, HE.out, HN.out⟩, (Mod.refl _ _).alloc _, Nat.le_refl _⟩

theorem Chunks.isSlice {w : World} {lv : Value} {cs : List (Ck × Value)} (h : Chunks w lv cs) : ∃ a n c, lv = .slice a n c := by
  rcases h.shape with ⟨rfl, _⟩ | ⟨b, cap, rfl, _⟩ <;> exact ⟨_, _, _, rfl⟩

theorem Chunks.one {w : World} {lv : Value} {cs : List (Ck × Value)} (h : Chunks w lv cs) : lv.oneCell' = true := by
  rcases h.shape with ⟨rfl, _⟩ | ⟨b, cap, rfl, _⟩ <;> rfl

def ClonePost (l : List Ck) (w : World) (e : Ending) (w' : World) : Prop :=
  ∃ tb' mb' lv', e = .returned (.pointer (some ⟨tb', 0, none⟩)) ∧ Tab w' tb' mb' lv' l ∧ Mod [] w w' ∧ w.heap.size ≤ tb' ∧ w.heap.size ≤ mb' ∧ FreshN w.heap.size lv'

set_option maxRecDepth 100000 in
set_option maxHeartbeats 2000000 in
theorem clone_any (w : World) (tb mb : Nat) (lv : Value) (l : List Ck) (h : Tab w tb mb lv l) :
    Calls Try.prog 37 #[.pointer (some ⟨tb, 0, none⟩)] w (ClonePost l w) := by
  obtain ⟨c0, c1, hl, _, _⟩ := h.open
  obtain ⟨cs, M, a1, a2, a3, a4, a5, a6⟩ := h
  have hlc : cs.length ≤ 100000 := by rw [← a3, cksOf_len] at hl; omega
  have H2 := Lib.hid a2
  have H3 := Lib.hid a3
  have H4 := Lib.hid a4
  have H5 := Lib.hid a5
  have H6 := Lib.hid a6
  clear a1 a2 a3 a4 a5 a6
  go_enter Try.func37, Try.ntmps37
  go_wp2_with fail
  go_region_held3 (fun w' => w'.cell? ⟨tb, 0, none⟩ = some lv ∧ w'.cell? ⟨tb, 1, none⟩ = some (.map (some mb))) (first | go_keep | exact ⟨hm1.cell c0 (by simp), hm1.cell c1 (by simp)⟩ | exact ⟨hm2.cell (hm1.cell c0 (by simp)) (by simp), hm2.cell (hm1.cell c1 (by simp)) (by simp)⟩) (first | (go_at_call 68; refine (cloneCks_any _ lv cs (H2.out.mod0 ((Mod.refl [] w).drew)) hlc).mono ?_; rintro e w1 ⟨lv', rfl, hch, hm1, hfr⟩; obtain ⟨sa, sn, sc, rfl⟩ := hch.isSlice) | (go_at_call 69; refine (cloneMap_any _ mb M ((H4.out.mod ((Mod.refl [] w).drew) (by simp)).mod hm1 (by simp))).mono ?_; rintro e w2 ⟨mb', rfl, hM', hm2, hmb⟩))
  go_wp2
  go_ret
  have hm01 : Mod [] w w1 := (((Mod.refl [] w).drew).trans_nil hm1)
  have hm02 : Mod [] w w2 := hm01.trans_nil hm2
  have s1 : w.heap.size ≤ w1.heap.size := hm01.size
  have s2 : w.heap.size ≤ w2.heap.size := hm02.size
  have hma : Mod [] w2 (w2.alloc (.cells #[.slice sa sn sc, .map (some mb')] 120)) := (Mod.refl _ _).alloc _
  exact ⟨w2.heap.size, mb', .slice sa sn sc, rfl, ⟨cs, M, heap_alloc_at w2 _, (hch.mod0 hm2).mod0 hma, H3.out, hM'.mod hma (by simp), H5.out, H6.out⟩, hm02.alloc _, s2, by omega, hfr⟩

end Go.Proofs.Ytknkifanpppglaa
