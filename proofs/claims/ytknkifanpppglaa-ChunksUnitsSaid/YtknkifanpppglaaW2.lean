/- Walks: slices.Clone of references, (*Table).Get. -/
import Derived.Test.YtknkifanpppglaaW1
import Derived.Test.YtknkifanpppglaaApp
import Derived.WalkSpells
import Derived.Lib.SliceRun
namespace Go.Proofs.Ytknkifanpppglaa
open Go.RowKit

theorem sty_ref : STy Try.prog 43 113 2 16 := STy.mk' (z := .agg #[.int .i64 0, .int .i64 0]) Try.underlying43 (by kernel_rfl) rfl (by omega)

theorem info43 : (Try.prog.info? 43).map (·.size) = some 1 := by kernel_rfl

theorem oneCell_refs (r : List (Int × Int)) : ∀ q ∈ r.map refCells, ∀ u ∈ q, u.oneCell' = true := by
  intro q hq u hu
  obtain ⟨x, _, rfl⟩ := List.mem_map.1 hq
  simp [refCells] at hu
  rcases hu with rfl | rfl <;> rfl

def RefsPost (r : List (Int × Int)) (w : World) (e : Ending) (w' : World) : Prop :=
  ∃ rv', e = .returned rv' ∧ Refs w' rv' r ∧ Mod [] w w' ∧ ∀ g, rv'.ownBlock = some g → w.heap.size ≤ g

theorem cloneRefs_any (w : World) (rv : Value) (r : List (Int × Int)) (h : Refs w rv r) (hl : r.length ≤ 100000) :
    Calls Try.prog 60 #[rv] w (RefsPost r w) := by
  have H := Lib.hid h
  rcases h.shape with ⟨rfl, rfl⟩ | ⟨b, cap, rfl, hb, hc, hm, hr⟩
  · clear h
    have en := fun (w : World) => Lib.run_eql_slice_nil (P := Try.prog) w 43 _ none 0 0 0 0 Try.underlying43
    go_enter Try.func60, Try.ntmps60
    go_wp2
    go_ret
    exact ⟨_, rfl, H.out, Mod.refl _ _, by simp [Value.ownBlock]⟩
  · clear h hr
    have en := fun (w : World) => Lib.run_eql_slice_nil (P := Try.prog) w 43 _ (some ⟨b, 0, none⟩) r.length cap 0 0 Try.underlying43
    go_enter Try.func60, Try.ntmps60
    go_wp2_with (at_builtin; refine wpList_append_Own sty_ref rfl (.tmp 5) (.tmp 6) rfl (.slice (some ⟨w.heap.size, 0, none⟩) 0 0) (.slice (some ⟨b, 0, none⟩) r.length cap) rfl rfl [] (r.map refCells) (Own.lit0 _ _ _) (Src.mod ((Mod.refl [] w).alloc _) H.out.src (by simp)) (oneCell_refs r) (by simp [maxLen]; omega) (by simp; omega) ?_; intro v' w1 hown hm1 hfr)
    go_ret
    have hm2 : Mod [] w w1 := ((Mod.refl [] w).alloc _).trans hm1 (by simp [Value.ownBlock])
    rw [List.nil_append] at hown
    refine ⟨v', rfl, hown, hm2, fun g hg => ?_⟩
    rcases hfr with h1 | ⟨g', h1, h2⟩
    · rw [h1] at hg; simp [Value.ownBlock] at hg; omega
    · rw [hg] at h1; simp at h1; subst h1; simp at h2; omega

def nilV : Value := .slice none 0 0
def zeroCk : Ck := ⟨0, List.replicate 16 0, 0, zeroU, false, []⟩
def zeroCells : List Value := [.int .i64 0, .int .u8 0, .int .u8 0, .int .u8 0, .int .u8 0, .int .u8 0, .int .u8 0, .int .u8 0, .int .u8 0, .int .u8 0, .int .u8 0, .int .u8 0, .int .u8 0, .int .u8 0, .int .u8 0, .int .u8 0, .int .u8 0, .int .u32 0, .int .i64 0, .int .i64 0, .int .i64 0, .bool false, .slice none 0 0]
theorem zeroCells_eq : zeroCk.cells nilV = zeroCells := rfl

theorem oneCell_ck {c : Ck} {rv : Value} (h : rv.oneCell' = true) : ∀ u ∈ c.cells rv, u.oneCell' = true := by
  intro u hu
  simp only [Ck.cells, List.mem_cons, List.mem_append, List.mem_map, List.not_mem_nil, or_false] at hu
  rcases hu with rfl | ⟨x, _, rfl⟩ | rfl | rfl | rfl | rfl | rfl | rfl <;> first | rfl | exact h

theorem Refs.one {w : World} {rv : Value} {r : List (Int × Int)} (h : Refs w rv r) : rv.oneCell' = true := by
  rcases h.shape with ⟨rfl, _⟩ | ⟨b, cap, rfl, _⟩ <;> rfl

theorem Ck.set22 {c : Ck} (h : c.dig.length = 16) (rv rv' : Value) : (c.cells rv).set 22 rv' = c.cells rv' := by
  simp only [Ck.cells]
  rw [List.set_cons_succ, List.set_append]
  rw [if_neg (by simp; omega)]
  simp [h]

def GetPost (l : List Ck) (id : Int) (w : World) (e : Ending) (w' : World) : Prop :=
  Mod [] w w' ∧ ((getC l id = none ∧ e = .returned (.tuple #[.agg (zeroCk.cells nilV).toArray, .bool false])) ∨
    ∃ c rv, getC l id = some c ∧ c.dig.length = 16 ∧ e = .returned (.tuple #[.agg (c.cells rv).toArray, .bool true]) ∧ Refs w' rv c.refs ∧ ∀ g, rv.ownBlock = some g → w.heap.size ≤ g)

set_option maxHeartbeats 1000000 in
theorem get_any (w : World) (tb mb : Nat) (lv : Value) (l : List Ck) (id : Int) (h : Tab w tb mb lv l) :
    Calls Try.prog 16 #[.pointer (some ⟨tb, 0, none⟩), .int .i64 id] w (GetPost l id w) := by
  have HT := Lib.hid h
  clear h
  go_enter Try.func16, Try.ntmps16
  go_wp2_with fail
  refine (find_any _ tb mb lv l id (HT.out.mod0 ((Mod.refl _ _).alloc _))).mono ?_
  rintro e w1 ⟨hm, hf⟩
  have hm0 : Mod [] w w1 := ((Mod.refl _ _).alloc _).trans_nil hm
  have hb0 : w1.heap[w.heap.size]? = some (.cells zeroCells.toArray 45 (0, 0)) := hm.heap (heap_alloc_at w _) (by simp)
  have H0 := Lib.hid hb0
  clear hb0
  rcases hf with ⟨hi, rfl⟩ | ⟨k, b, n, cap, hi, rfl, rfl⟩
  · have hg : getC l id = none := by rw [getC_idx, hi]; rfl
    have HG := Lib.hid hg
    clear hi hg
    go_wp2_with (refine wpList_store_at rfl 45 (.tmp 4) (.tmp 13) rfl 23 info45 w.heap.size 0 45 zeroCells zeroCells rfl rfl H0.out rfl (oneCell_ck (c := zeroCk) (rv := nilV) rfl) (by simp [zeroCells]) ?_; intro w2 hh2 hm2; have HH2 := Lib.hid hh2; clear hh2)
    have hr := Row.of_heap (cs := zeroCells) (by rw [HH2.out, splice_all _ _ rfl])
    have hl := run_loadVar_at (P := Try.prog) w2 w.heap.size 0 45 zeroCells _ hr Try.underlying45 rfl info45
    exact bodyPost_ret (results_cell_tmp Try.results16 _ _ _ _ _ rfl rfl hl) rfl ⟨hm0.trans hm2 (by simp), .inl ⟨HG.out, rfl⟩⟩
  · obtain ⟨c, hk, hid, _⟩ := idxOf_some.1 hi
    have hg : getC l id = some c := by rw [getC_idx, hi]; exact hk
    obtain ⟨cs, M, a1, a2, a3, a4, a5, a6⟩ := HT.out
    subst a3
    obtain ⟨rv, _, hrow, hrf, hd⟩ := a2.at hk
    have hrow1 := hrow.mod hm0 (by simp)
    have hrf1 := hrf.mod0 hm0
    have HG := Lib.hid hg
    have HR := Lib.hid hrow1
    have HF := Lib.hid hrf1
    have HD := Lib.hid hd
    have hc22 : w1.cell? ⟨b, k * 23 + 22, none⟩ = some rv := hrow1 22 rv (Ck.c22 hd rv)
    have hrl : c.refs.length ≤ 16 := (a6.each c (List.mem_of_getElem? hk)).len
    clear hi hk hid hg a1 a2 a4 a5 a6 M hrow hrf hrow1 hrf1 hd
    go_wp2_with (first | (refine wpList_load_at rfl 45 (.tmp 15) rfl _ Try.underlying45 rfl 23 info45 b (k * 23) (c.cells rv) rfl HR.out (by rw [Ck.cells_len, HD.out]) ?_) | (refine wpList_store_at rfl 45 (.tmp 7) (.tmp 16) rfl 23 info45 w1.heap.size 0 45 zeroCells (c.cells rv) rfl rfl (heap_alloc_at _ _) (by rw [Ck.cells_len, HD.out]) (oneCell_ck HF.out.one) (by simp [zeroCells, Ck.cells_len, HD.out]) ?_; intro w2 hh2 hm2; have hm12 := ((Mod.refl [] w1).alloc (.cells zeroCells.toArray 45)).trans hm2 (by simp); have hc22' := hm12.cell hc22 (by simp); have HH2 := Lib.hid hh2; clear hh2) | (go_at_call 60; refine (cloneRefs_any _ rv c.refs (HF.out.mod0 hm12) (by omega)).mono ?_; rintro e w3 ⟨rv', rfl, hrv', hm3, hfr⟩; have hm13 := hm12.trans_nil hm3; have h43 : w3.heap[w1.heap.size]? = some (.cells (c.cells rv).toArray 45 (0, 0)) := hm3.heap (by rw [HH2.out, splice_all _ _ (by simp [zeroCells, Ck.cells_len, HD.out])]) (by simp); have H43 := Lib.hid h43; clear h43) | (refine wpList_store1 rfl 43 (.tmp 22) (.tmp 21) rfl info43 w1.heap.size 22 45 (c.cells rv) rv' rfl rfl H43.out hrv'.one (by rw [Ck.cells_len, HD.out]; omega) ?_; intro w4 hh4 hm4; have hm14 := hm13.trans hm4 (by simp); have hr4 : Row w4 w1.heap.size 0 (c.cells rv') := Row.of_heap (by rw [hh4, Ck.set22 HD.out]); clear hh4; have h04 : w4.heap[w.heap.size]? = some (.cells zeroCells.toArray 45 (0, 0)) := hm14.heap H0.out (by simp); have H04 := Lib.hid h04; clear h04) | (refine wpList_load_at rfl 45 (.tmp 7) rfl _ Try.underlying45 rfl 23 info45 w1.heap.size 0 (c.cells rv') rfl hr4 (by rw [Ck.cells_len, HD.out]) ?_) | (refine wpList_store_at rfl 45 (.tmp 4) (.tmp 23) rfl 23 info45 w.heap.size 0 45 zeroCells (c.cells rv') rfl rfl H04.out (by rw [Ck.cells_len, HD.out]) (oneCell_ck hrv'.one) (by simp [zeroCells, Ck.cells_len, HD.out]) ?_; intro w5 hh5 hm5; have HH5 := Lib.hid hh5; clear hh5))
    have hr5 : Row w5 w.heap.size 0 (c.cells rv') := Row.of_heap (by rw [HH5.out, splice_all _ _ (by simp [zeroCells, Ck.cells_len, HD.out])])
    have hl := run_loadVar_at (P := Try.prog) w5 w.heap.size 0 45 (c.cells rv') _ hr5 Try.underlying45 rfl (by rw [info45, Ck.cells_len, HD.out])
    have hr4' : Refs w4 rv' c.refs := hrv'.mod hm4 (NoRefs.one H43.out (by decide))
    have hr5' : Refs w5 rv' c.refs := hr4'.mod hm5 (NoRefs.one H04.out (by decide))
    have hm05 : Mod [] w w5 := (hm0.trans_nil hm14).trans hm5 (by simp)
    refine bodyPost_ret (results_cell_tmp Try.results16 _ _ _ _ _ rfl rfl hl) rfl ⟨hm05, .inr ⟨c, rv', HG.out, HD.out, rfl, hr5', fun g hg => ?_⟩⟩
    have h1 := hfr g hg
    have h2 := hm12.size
    have h3 := hm0.size
    omega

end Go.Proofs.Ytknkifanpppglaa
