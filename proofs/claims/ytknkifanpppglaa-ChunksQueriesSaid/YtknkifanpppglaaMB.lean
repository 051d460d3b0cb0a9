/- Walks: cmp.Compare, binary search, (*Table).find of the program. -/
import Derived.Test.YtknkifanpppglaaMA
import Derived.Outline
import Derived.LoopTactic
import Derived.Deep.QuietTactic
import Derived.BigQuiet
import Derived.RegionTactic
import Derived.ChangeAlike
import Derived.WalkSpells
import Derived.Lib.SliceRun
import Derived.StillTailTactics
import Derived.Deep.RegionHeld3
namespace Go.Proofs.Ytknkifanpppglaa
open Go.RowKit

def cmpI (x y : Int) : Int := if x < y then -1 else if y < x then 1 else 0

theorem isNaN_any (x : Int) (w : World) : Calls Try.prog 129 #[.int .i64 x] w fun e w' => e = .returned (.bool false) ∧ w = w' := by
  go_enter Try.func129, Try.ntmps129
  go_wp2
  go_ret
  exact ⟨by simp, rfl⟩

theorem compare_any (x y : Int) (w : World) : Calls Try.prog 107 #[.int .i64 x, .int .i64 y] w fun e w' => e = .returned (.int .i64 (cmpI x y)) ∧ w = w' := by
  go_enter Try.func107, Try.ntmps107
  go_wp2_with (go_at_call 129; refine (isNaN_any _ _).mono ?_; rintro e w' ⟨rfl, rfl⟩)
  all_goals
    go_ret
    refine ⟨?_, rfl⟩
    simp only [cmpI]
    (repeat' split) <;> first | rfl | omega

theorem find1_any (cs : List Value) (x id : Int) (h0 : cs[0]? = some (.int .i64 x)) (w : World) :
    Calls Try.prog 106 #[.agg cs.toArray, .int .i64 id] w fun e w' => e = .returned (.int .i64 (cmpI x id)) ∧ Mod [] w w' := by
  go_enter Try.func106, Try.ntmps106
  go_wp2_with (go_at_call 107; refine (compare_any _ _ _).mono ?_; rintro e w' ⟨rfl, rfl⟩)
  go_ret
  exact ⟨rfl, (Mod.refl _ _).alloc _⟩

theorem info45 : (Try.prog.info? 45).map (·.size) = some 23 := by kernel_rfl

theorem cmpI_lt {x y : Int} : cmpI x y < 0 ↔ x < y := by unfold cmpI; (repeat' split) <;> omega
theorem cmpI_eq {x y : Int} : cmpI x y = 0 ↔ x = y := by unfold cmpI; (repeat' split) <;> omega

def RiseC (cs : List (Ck × Value)) : Prop := ∀ (i j : Nat) (p q : Ck × Value), i < j → cs[i]? = some p → cs[j]? = some q → p.1.id < q.1.id

def foundAt (cs : List (Ck × Value)) (id : Int) (k : Nat) : Bool := (cs[k]?.map (fun p => decide (p.1.id = id))).getD false
def CutAt (cs : List (Ck × Value)) (id : Int) (k : Nat) : Prop :=
  k ≤ cs.length ∧ (∀ j p, j < k → cs[j]? = some p → p.1.id < id) ∧ (∀ j p, k ≤ j → cs[j]? = some p → id ≤ p.1.id)
def BsPost (cs : List (Ck × Value)) (id : Int) (w : World) (e : Ending) (w' : World) : Prop :=
  ∃ k : Nat, CutAt cs id k ∧ e = .returned (.tuple #[.int .i64 k, .bool (foundAt cs id k)]) ∧ Mod [] w w'

set_option maxHeartbeats 1000000 in
theorem bsearch_any (w : World) (b cap : Nat) (cs : List (Ck × Value)) (id : Int) (hlen : cs.length ≤ 65536)
    (hrow : ∀ k p, cs[k]? = some p → Row w b (k * 23) (p.1.cells p.2)) (hdig : ∀ p ∈ cs, p.1.dig.length = 16) (hr : RiseC cs) :
    Calls Try.prog 105 #[.slice (some ⟨b, 0, none⟩) cs.length cap, .int .i64 id, .func (.func 106) #[] #[]] w (BsPost cs id w) := by
  have HR := Lib.hid hrow
  have HD := Lib.hid hdig
  have HRi := Lib.hid hr
  clear hrow hdig hr
  go_enter Try.func105, Try.ntmps105
  go_wp2
  go_loopw [9, 10] (fun s9 s10 wr => ∃ lo hi : Nat, s9 = .int .i64 lo ∧ s10 = .int .i64 hi ∧ lo ≤ hi ∧ hi ≤ cs.length ∧ Hid (∀ j p, j < lo → cs[j]? = some p → p.1.id < id) ∧ Hid (∀ j p, hi ≤ j → cs[j]? = some p → id ≤ p.1.id) ∧ Mod [] w wr) (fun s9 s10 _ => (intOf s10 - intOf s9).toNat)
  case atStart => exact ⟨0, cs.length, rfl, rfl, Nat.zero_le _, Nat.le_refl _, (fun j p hj => absurd hj (Nat.not_lt_zero _) : ∀ (j : Nat) (p : Ck × Value), j < 0 → cs[j]? = some p → p.1.id < id), (fun j p hj hp => by rw [List.getElem?_eq_none hj] at hp; simp at hp : ∀ (j : Nat) (p : Ck × Value), cs.length ≤ j → cs[j]? = some p → id ≤ p.1.id), Mod.refl _ _⟩
  case round =>
    obtain ⟨lo, hi, rfl, rfl, h1, h2, h3, h4, hm⟩ := hrel
    by_cases hlh : lo < hi
    · obtain ⟨p, hp⟩ : ∃ p, cs[(lo + hi) / 2]? = some p := ⟨_, List.getElem?_eq_getElem (by omega)⟩
      have hrw : Row wr b ((lo + hi) / 2 * 23) (p.1.cells p.2) := (HR.out _ p hp).mod hm (by simp)
      have hd := HD.out p (List.mem_of_getElem? hp)
      have HP := Lib.hid hp
      clear hp
      by_cases hc : cmpI p.1.id id < 0
      · have hc' : p.1.id < id := cmpI_lt.1 hc
        go_wp2_with (first | (refine wpList_load_at rfl 45 _ rfl _ Try.underlying45 rfl 23 info45 b ((lo + hi) / 2 * 23) (p.1.cells p.2) rfl hrw (by rw [Ck.cells_len, hd]) ?_) | (go_at_call 106; refine (find1_any _ p.1.id id rfl _).mono ?_; rintro e w' ⟨rfl, hm1⟩))
        go_roundw
        case rel =>
          refine ⟨(lo + hi) / 2 + 1, hi, by go_num, rfl, by omega, h2, ?_, h4, hm.trans_nil hm1⟩
          have F : ∀ (j : Nat) (q : Ck × Value), j < (lo + hi) / 2 + 1 → cs[j]? = some q → q.1.id < id := by
            intro j q hj hq
            by_cases hj2 : j = (lo + hi) / 2
            · subst hj2; rw [HP.out] at hq; cases hq; exact hc'
            · have := HRi.out j _ q p (by omega) hq HP.out
              omega
          exact F
        case measure => simp [intOf]; omega
      · have hc' : id ≤ p.1.id := by rw [cmpI_lt] at hc; omega
        go_wp2_with (first | (refine wpList_load_at rfl 45 _ rfl _ Try.underlying45 rfl 23 info45 b ((lo + hi) / 2 * 23) (p.1.cells p.2) rfl hrw (by rw [Ck.cells_len, hd]) ?_) | (go_at_call 106; refine (find1_any _ p.1.id id rfl _).mono ?_; rintro e w' ⟨rfl, hm1⟩))
        go_roundw
        case rel =>
          refine ⟨lo, (lo + hi) / 2, rfl, by go_num, by omega, by omega, h3, ?_, hm.trans_nil hm1⟩
          have F : ∀ (j : Nat) (q : Ck × Value), (lo + hi) / 2 ≤ j → cs[j]? = some q → id ≤ q.1.id := by
            intro j q hj hq
            by_cases hj2 : j = (lo + hi) / 2
            · subst hj2; rw [HP.out] at hq; cases hq; exact hc'
            · have := HRi.out _ j p q (by omega) HP.out hq
              omega
          exact F
        case measure => simp [intOf]; omega
    · obtain rfl : lo = hi := by omega
      have cut : CutAt cs id lo := ⟨h2, h3.out, h4.out⟩
      have CUT := Lib.hid cut
      clear cut
      by_cases hl : lo < cs.length
      · obtain ⟨p, hp⟩ : ∃ p, cs[lo]? = some p := ⟨_, List.getElem?_eq_getElem hl⟩
        have hrw : Row wr b (lo * 23) (p.1.cells p.2) := (HR.out _ p hp).mod hm (by simp)
        have hd := HD.out p (List.mem_of_getElem? hp)
        have hf : foundAt cs id lo = (cmpI p.1.id id == 0) := by
          simp only [foundAt, hp, Option.map_some, Option.getD_some]
          rw [Bool.eq_iff_iff, decide_eq_true_eq, beq_iff_eq, cmpI_eq]
        have HF := Lib.hid hf
        clear hp hf
        go_wp2_with (first | (refine wpList_load_at rfl 45 _ rfl _ Try.underlying45 rfl 23 info45 b (lo * 23) (p.1.cells p.2) rfl hrw (by rw [Ck.cells_len, hd]) ?_) | (go_at_call 106; refine (find1_any _ p.1.id id rfl _).mono ?_; rintro e w' ⟨rfl, hm1⟩))
        go_ret2
        exact ⟨lo, CUT.out, by rw [HF.out]; rfl, hm.trans_nil hm1⟩
      · have hf : foundAt cs id lo = false := by simp [foundAt, List.getElem?_eq_none (Nat.le_of_not_lt hl)]
        have HF := Lib.hid hf
        clear hf
        go_wp2
        go_ret2
        exact ⟨lo, CUT.out, by rw [HF.out]; rfl, hm⟩

theorem bsearch_nil (w : World) (id : Int) :
    Calls Try.prog 105 #[.slice none 0 0, .int .i64 id, .func (.func 106) #[] #[]] w (BsPost [] id w) := by
  go_enter Try.func105, Try.ntmps105
  go_wp2
  refine wp_loop_rounds 1 ?_
  rw [rounds_succ]
  go_wp2
  go_ret2
  exact ⟨0, ⟨by simp, by simp, by simp⟩, rfl, Mod.refl _ _⟩

theorem riseC_of {cs : List (Ck × Value)} (h : Inv (cksOf cs)) : RiseC cs := fun _ _ _ _ hij hp hq => ids_lt h (cksOf_get hp) (cksOf_get hq) hij

theorem bsearch_lv (w : World) (lv : Value) (cs : List (Ck × Value)) (id : Int) (hc : Chunks w lv cs) (hi : Inv (cksOf cs)) :
    Calls Try.prog 105 #[lv, .int .i64 id, .func (.func 106) #[] #[]] w (BsPost cs id w) := by
  have hl := inv_len hi
  rw [cksOf_len] at hl
  rcases hc.shape with ⟨rfl, rfl⟩ | ⟨b, cap, rfl, _, _, _, hr⟩
  · exact bsearch_nil w id
  · exact bsearch_any w b cap cs id hl hr (fun p hp => hc.dig hp) (riseC_of hi)

theorem foundAt_true {cs : List (Ck × Value)} {id : Int} {k : Nat} (hi : Inv (cksOf cs)) (h : foundAt cs id k = true) : idxOf (cksOf cs) id = some k ∧ k < cs.length := by
  unfold foundAt at h
  cases hp : cs[k]? with
  | none => rw [hp] at h; simp at h
  | some p =>
    rw [hp] at h
    simp at h
    refine ⟨?_, (List.getElem?_eq_some_iff.1 hp).1⟩
    rw [← h]
    exact idxOf_at hi (cksOf_get hp)

theorem foundAt_false {cs : List (Ck × Value)} {id : Int} {k : Nat} (hi : Inv (cksOf cs)) (hc : CutAt cs id k) (h : foundAt cs id k = false) : idxOf (cksOf cs) id = none := by
  refine (idxOf_cut id k ?_ ?_ hi).2 ?_
  · intro j c hj hc'
    obtain ⟨rv, hrv⟩ := cksOf_get' hc'
    exact hc.2.1 j _ hj hrv
  · intro j c hj hc'
    obtain ⟨rv, hrv⟩ := cksOf_get' hc'
    exact hc.2.2 j _ hj hrv
  · intro c hc' he
    obtain ⟨rv, hrv⟩ := cksOf_get' hc'
    unfold foundAt at h
    rw [hrv] at h
    simp at h
    exact h he

def FindPost (lv : Value) (l : List Ck) (id : Int) (w : World) (e : Ending) (w' : World) : Prop :=
  Mod [] w w' ∧ ((idxOf l id = none ∧ e = .returned (.pointer none)) ∨
    ∃ k b n cap, idxOf l id = some k ∧ lv = .slice (some ⟨b, 0, none⟩) n cap ∧ e = .returned (.pointer (some ⟨b, k * 23, none⟩)))

theorem find_any (w : World) (tb mb : Nat) (lv : Value) (l : List Ck) (id : Int) (h : Tab w tb mb lv l) :
    Calls Try.prog 59 #[.pointer (some ⟨tb, 0, none⟩), .int .i64 id] w (FindPost lv l id w) := by
  obtain ⟨cs, M, a1, a2, rfl, a4, a5, a6⟩ := h
  have c0 : w.cell? ⟨tb, 0, none⟩ = some lv := by rw [cell_of_row w tb 0 _ _ _ a1]; rfl
  have B := bsearch_lv w lv cs id a2 a6
  have sh := a2.shape
  have HB := Lib.hid B
  have HS := Lib.hid sh
  have HA1 := Lib.hid a1
  clear B sh a1 a2 a4 a5 M
  go_enter Try.func59, Try.ntmps59
  go_wp2_with fail
  refine HB.out.mono ?_
  rintro e w' ⟨k, hcut, rfl, hm⟩
  have c1 : w'.cell? ⟨tb, 0, none⟩ = some lv := hm.cell c0 (by simp)
  have HCut := Lib.hid hcut
  clear hcut
  cases hf : foundAt cs id k with
  | false =>
    have hn := foundAt_false a6 HCut.out hf
    have HN := Lib.hid hn
    clear hn hf
    go_wp2
    go_ret
    exact ⟨hm, .inl ⟨HN.out, rfl⟩⟩
  | true =>
    have hn := foundAt_true a6 hf
    have hkl := hn.2
    have HN := Lib.hid hn.1
    clear hn hf
    rcases HS.out with ⟨rfl, rfl⟩ | ⟨b, cap, rfl, _, _, _, hr⟩
    · simp at hkl
    · clear hr
      go_wp2
      go_ret
      exact ⟨hm, .inr ⟨k, b, _, cap, HN.out, rfl, rfl⟩⟩

end Go.Proofs.Ytknkifanpppglaa

/- Walks: slices.Clone of references, (*Table).Get. -/
namespace Go.Proofs.Ytknkifanpppglaa
open Go.RowKit

theorem sty_ref : STy Try.prog 43 113 2 16 := STy.mk' (z := .agg #[.int .i64 0, .int .i64 0]) Try.underlying43 (by kernel_rfl) rfl (by omega)

theorem info43 : (Try.prog.info? 43).map (·.size) = some 1 := by kernel_rfl

theorem oneCell_refs (r : List (Int × Int)) : ∀ q ∈ r.map refCells, ∀ u ∈ q, u.oneCell' = true := by
  intro q hq u hu
  obtain ⟨x, _, rfl⟩ := List.mem_map.1 hq
  simp [refCells] at hu
  rcases hu with rfl | rfl <;> rfl

def RefsPost (r : List (Int × Int)) (w : World) (e : Ending) (w' : World) : Prop :=
  ∃ rv', e = .returned rv' ∧ Refs w' rv' r ∧ Mod [] w w' ∧ ∀ g, rv'.ownBlock = some g → w.heap.size ≤ g

theorem cloneRefs_any (w : World) (rv : Value) (r : List (Int × Int)) (h : Refs w rv r) (hl : r.length ≤ 100000) :
    Calls Try.prog 60 #[rv] w (RefsPost r w) := by
  have H := Lib.hid h
  rcases h.shape with ⟨rfl, rfl⟩ | ⟨b, cap, rfl, hb, hc, hm, hr⟩
  · clear h
    have en := fun (w : World) => Lib.run_eql_slice_nil (P := Try.prog) w 43 _ none 0 0 0 0 Try.underlying43
    go_enter Try.func60, Try.ntmps60
    go_wp2
    go_ret
    exact ⟨_, rfl, H.out, Mod.refl _ _, by simp [Value.ownBlock]⟩
  · clear h hr
    have en := fun (w : World) => Lib.run_eql_slice_nil (P := Try.prog) w 43 _ (some ⟨b, 0, none⟩) r.length cap 0 0 Try.underlying43
    go_enter Try.func60, Try.ntmps60
    go_wp2_with (at_builtin; refine wpList_append_Own sty_ref rfl (.tmp 5) (.tmp 6) rfl (.slice (some ⟨w.heap.size, 0, none⟩) 0 0) (.slice (some ⟨b, 0, none⟩) r.length cap) rfl rfl [] (r.map refCells) (Own.lit0 _ _ _) (Src.mod ((Mod.refl [] w).alloc _) H.out.src (by simp)) (oneCell_refs r) (by simp [maxLen]; omega) (by simp; omega) ?_; intro v' w1 hown hm1 hfr)
    go_ret
    have hm2 : Mod [] w w1 := ((Mod.refl [] w).alloc _).trans hm1 (by simp [Value.ownBlock])
    rw [List.nil_append] at hown
    refine ⟨v', rfl, hown, hm2, fun g hg => ?_⟩
    rcases hfr with h1 | ⟨g', h1, h2⟩
    · rw [h1] at hg; simp [Value.ownBlock] at hg; omega
    · rw [hg] at h1; simp at h1; subst h1; simp at h2; omega

def nilV : Value := .slice none 0 0
def zeroCk : Ck := ⟨0, List.replicate 16 0, 0, zeroU, false, []⟩
def zeroCells : List Value := [.int .i64 0, .int .u8 0, .int .u8 0, .int .u8 0, .int .u8 0, .int .u8 0, .int .u8 0, .int .u8 0, .int .u8 0, .int .u8 0, .int .u8 0, .int .u8 0, .int .u8 0, .int .u8 0, .int .u8 0, .int .u8 0, .int .u8 0, .int .u32 0, .int .i64 0, .int .i64 0, .int .i64 0, .bool false, .slice none 0 0]
theorem zeroCells_eq : zeroCk.cells nilV = zeroCells := rfl

theorem oneCell_ck {c : Ck} {rv : Value} (h : rv.oneCell' = true) : ∀ u ∈ c.cells rv, u.oneCell' = true := by
  intro u hu
  simp only [Ck.cells, List.mem_cons, List.mem_append, List.mem_map, List.not_mem_nil, or_false] at hu
  rcases hu with rfl | ⟨x, _, rfl⟩ | rfl | rfl | rfl | rfl | rfl | rfl <;> first | rfl | exact h

theorem Refs.one {w : World} {rv : Value} {r : List (Int × Int)} (h : Refs w rv r) : rv.oneCell' = true := by
  rcases h.shape with ⟨rfl, _⟩ | ⟨b, cap, rfl, _⟩ <;> rfl

theorem Ck.set22 {c : Ck} (h : c.dig.length = 16) (rv rv' : Value) : (c.cells rv).set 22 rv' = c.cells rv' := by
  simp only [Ck.cells]
  rw [List.set_cons_succ, List.set_append]
  rw [if_neg (by simp; omega)]
  simp [h]

def GetPost (l : List Ck) (id : Int) (w : World) (e : Ending) (w' : World) : Prop :=
  Mod [] w w' ∧ ((getC l id = none ∧ e = .returned (.tuple #[.agg (zeroCk.cells nilV).toArray, .bool false])) ∨
    ∃ c rv, getC l id = some c ∧ c.dig.length = 16 ∧ e = .returned (.tuple #[.agg (c.cells rv).toArray, .bool true]) ∧ Refs w' rv c.refs ∧ ∀ g, rv.ownBlock = some g → w.heap.size ≤ g)

set_option maxHeartbeats 1000000 in
theorem get_any (w : World) (tb mb : Nat) (lv : Value) (l : List Ck) (id : Int) (h : Tab w tb mb lv l) :
    Calls Try.prog 16 #[.pointer (some ⟨tb, 0, none⟩), .int .i64 id] w (GetPost l id w) := by
  have HT := Lib.hid h
  clear h
  go_enter Try.func16, Try.ntmps16
  go_wp2_with fail
  refine (find_any _ tb mb lv l id (HT.out.mod0 ((Mod.refl _ _).alloc _))).mono ?_
  rintro e w1 ⟨hm, hf⟩
  have hm0 : Mod [] w w1 := ((Mod.refl _ _).alloc _).trans_nil hm
  have hb0 : w1.heap[w.heap.size]? = some (.cells zeroCells.toArray 45 (0, 0)) := hm.heap (heap_alloc_at w _) (by simp)
  have H0 := Lib.hid hb0
  clear hb0
  rcases hf with ⟨hi, rfl⟩ | ⟨k, b, n, cap, hi, rfl, rfl⟩
  · have hg : getC l id = none := by rw [getC_idx, hi]; rfl
    have HG := Lib.hid hg
    clear hi hg
    go_wp2_with (refine wpList_store_at rfl 45 (.tmp 4) (.tmp 13) rfl 23 info45 w.heap.size 0 45 zeroCells zeroCells rfl rfl H0.out rfl (oneCell_ck (c := zeroCk) (rv := nilV) rfl) (by simp [zeroCells]) ?_; intro w2 hh2 hm2; have HH2 := Lib.hid hh2; clear hh2)
    have hr := Row.of_heap (cs := zeroCells) (by rw [HH2.out, splice_all _ _ rfl])
    have hl := run_loadVar_at (P := Try.prog) w2 w.heap.size 0 45 zeroCells _ hr Try.underlying45 rfl info45
    exact bodyPost_ret (results_cell_tmp Try.results16 _ _ _ _ _ rfl rfl hl) rfl ⟨hm0.trans hm2 (by simp), .inl ⟨HG.out, rfl⟩⟩
  · obtain ⟨c, hk, hid, _⟩ := idxOf_some.1 hi
    have hg : getC l id = some c := by rw [getC_idx, hi]; exact hk
    obtain ⟨cs, M, a1, a2, a3, a4, a5, a6⟩ := HT.out
    subst a3
    obtain ⟨rv, _, hrow, hrf, hd⟩ := a2.at hk
    have hrow1 := hrow.mod hm0 (by simp)
    have hrf1 := hrf.mod0 hm0
    have HG := Lib.hid hg
    have HR := Lib.hid hrow1
    have HF := Lib.hid hrf1
    have HD := Lib.hid hd
    have hc22 : w1.cell? ⟨b, k * 23 + 22, none⟩ = some rv := hrow1 22 rv (Ck.c22 hd rv)
    have hrl : c.refs.length ≤ 16 := (a6.each c (List.mem_of_getElem? hk)).len
    clear hi hk hid hg a1 a2 a4 a5 a6 M hrow hrf hrow1 hrf1 hd
    go_wp2_with (first | (refine wpList_load_at rfl 45 (.tmp 15) rfl _ Try.underlying45 rfl 23 info45 b (k * 23) (c.cells rv) rfl HR.out (by rw [Ck.cells_len, HD.out]) ?_) | (refine wpList_store_at rfl 45 (.tmp 7) (.tmp 16) rfl 23 info45 w1.heap.size 0 45 zeroCells (c.cells rv) rfl rfl (heap_alloc_at _ _) (by rw [Ck.cells_len, HD.out]) (oneCell_ck HF.out.one) (by simp [zeroCells, Ck.cells_len, HD.out]) ?_; intro w2 hh2 hm2; have hm12 := ((Mod.refl [] w1).alloc (.cells zeroCells.toArray 45)).trans hm2 (by simp); have hc22' := hm12.cell hc22 (by simp); have HH2 := Lib.hid hh2; clear hh2) | (go_at_call 60; refine (cloneRefs_any _ rv c.refs (HF.out.mod0 hm12) (by omega)).mono ?_; rintro e w3 ⟨rv', rfl, hrv', hm3, hfr⟩; have hm13 := hm12.trans_nil hm3; have h43 : w3.heap[w1.heap.size]? = some (.cells (c.cells rv).toArray 45 (0, 0)) := hm3.heap (by rw [HH2.out, splice_all _ _ (by simp [zeroCells, Ck.cells_len, HD.out])]) (by simp); have H43 := Lib.hid h43; clear h43) | (refine wpList_store1 rfl 43 (.tmp 22) (.tmp 21) rfl info43 w1.heap.size 22 45 (c.cells rv) rv' rfl rfl H43.out hrv'.one (by rw [Ck.cells_len, HD.out]; omega) ?_; intro w4 hh4 hm4; have hm14 := hm13.trans hm4 (by simp); have hr4 : Row w4 w1.heap.size 0 (c.cells rv') := Row.of_heap (by rw [hh4, Ck.set22 HD.out]); clear hh4; have h04 : w4.heap[w.heap.size]? = some (.cells zeroCells.toArray 45 (0, 0)) := hm14.heap H0.out (by simp); have H04 := Lib.hid h04; clear h04) | (refine wpList_load_at rfl 45 (.tmp 7) rfl _ Try.underlying45 rfl 23 info45 w1.heap.size 0 (c.cells rv') rfl hr4 (by rw [Ck.cells_len, HD.out]) ?_) | (refine wpList_store_at rfl 45 (.tmp 4) (.tmp 23) rfl 23 info45 w.heap.size 0 45 zeroCells (c.cells rv') rfl rfl H04.out (by rw [Ck.cells_len, HD.out]) (oneCell_ck hrv'.one) (by simp [zeroCells, Ck.cells_len, HD.out]) ?_; intro w5 hh5 hm5; have HH5 := Lib.hid hh5; clear hh5))
    have hr5 : Row w5 w.heap.size 0 (c.cells rv') := Row.of_heap (by rw [HH5.out, splice_all _ _ (by simp [zeroCells, Ck.cells_len, HD.out])])
    have hl := run_loadVar_at (P := Try.prog) w5 w.heap.size 0 45 (c.cells rv') _ hr5 Try.underlying45 rfl (by rw [info45, Ck.cells_len, HD.out])
    have hr4' : Refs w4 rv' c.refs := hrv'.mod hm4 (NoRefs.one H43.out (by decide))
    have hr5' : Refs w5 rv' c.refs := hr4'.mod hm5 (NoRefs.one H04.out (by decide))
    have hm05 : Mod [] w w5 := (hm0.trans_nil hm14).trans hm5 (by simp)
    refine bodyPost_ret (results_cell_tmp Try.results16 _ _ _ _ _ rfl rfl hl) rfl ⟨hm05, .inr ⟨c, rv', HG.out, HD.out, rfl, hr5', fun g hg => ?_⟩⟩
    have h1 := hfr g hg
    have h2 := hm12.size
    have h3 := hm0.size
    omega

end Go.Proofs.Ytknkifanpppglaa

/- Walks: the references of a chunk: binary search, held, total; Count. -/
namespace Go.Proofs.Ytknkifanpppglaa
open Go.RowKit

theorem infoRef : (Try.prog.info? 113).map (·.size) = some 2 := by kernel_rfl

theorem place1_any (x : Int × Int) (t : Int) (w : World) :
    Calls Try.prog 131 #[.agg (refCells x).toArray, .int .i64 t] w fun e w' => e = .returned (.int .i64 (cmpI x.1 t)) ∧ Mod [] w w' := by
  have e0 : (refCells x)[0]? = some (.int .i64 x.1) := rfl
  go_enter Try.func131, Try.ntmps131
  go_wp2_with (go_at_call 107; refine (compare_any _ _ _).mono ?_; rintro e w' ⟨rfl, rfl⟩)
  go_ret
  exact ⟨rfl, (Mod.refl _ _).alloc _⟩

def foundR (r : List (Int × Int)) (t : Int) (k : Nat) : Bool := (r[k]?.map (fun p => decide (p.1 = t))).getD false
def CutR (r : List (Int × Int)) (t : Int) (k : Nat) : Prop :=
  k ≤ r.length ∧ (∀ (j : Nat) (p : Int × Int), j < k → r[j]? = some p → p.1 < t) ∧ (∀ (j : Nat) (p : Int × Int), k ≤ j → r[j]? = some p → t ≤ p.1)
def BsPostR (r : List (Int × Int)) (t : Int) (w : World) (e : Ending) (w' : World) : Prop :=
  ∃ k : Nat, CutR r t k ∧ e = .returned (.tuple #[.int .i64 k, .bool (foundR r t k)]) ∧ Mod [] w w'

set_option maxHeartbeats 1000000 in
theorem bsearchR_any (w : World) (b cap : Nat) (r : List (Int × Int)) (t : Int) (hlen : r.length ≤ 65536)
    (hrow : ∀ k x, r[k]? = some x → Row w b (k * 2) (refCells x)) (hr : Rising r) :
    Calls Try.prog 130 #[.slice (some ⟨b, 0, none⟩) r.length cap, .int .i64 t, .func (.func 131) #[] #[]] w (BsPostR r t w) := by
  have HR := Lib.hid hrow
  have ri : ∀ (i j : Nat) (p q : Int × Int), i < j → r[i]? = some p → r[j]? = some q → p.1 < q.1 := by
    intro i j p q hij hp hq
    have h1 := List.getElem?_eq_some_iff.1 hp
    have h2 := List.getElem?_eq_some_iff.1 hq
    have := List.pairwise_iff_getElem.1 hr i j h1.1 h2.1 hij
    rw [h1.2, h2.2] at this
    exact this
  have HRi := Lib.hid ri
  clear hrow hr ri
  go_enter Try.func130, Try.ntmps130
  go_wp2
  go_loopw [9, 10] (fun s9 s10 wr => ∃ lo hi : Nat, s9 = .int .i64 lo ∧ s10 = .int .i64 hi ∧ lo ≤ hi ∧ hi ≤ r.length ∧ Hid (∀ (j : Nat) (p : Int × Int), j < lo → r[j]? = some p → p.1 < t) ∧ Hid (∀ (j : Nat) (p : Int × Int), hi ≤ j → r[j]? = some p → t ≤ p.1) ∧ Mod [] w wr) (fun s9 s10 _ => (intOf s10 - intOf s9).toNat)
  case atStart => exact ⟨0, r.length, rfl, rfl, Nat.zero_le _, Nat.le_refl _, (fun j p hj => absurd hj (Nat.not_lt_zero _) : ∀ (j : Nat) (p : Int × Int), j < 0 → r[j]? = some p → p.1 < t), (fun j p hj hp => by rw [List.getElem?_eq_none hj] at hp; simp at hp : ∀ (j : Nat) (p : Int × Int), r.length ≤ j → r[j]? = some p → t ≤ p.1), Mod.refl _ _⟩
  case round =>
    obtain ⟨lo, hi, rfl, rfl, h1, h2, h3, h4, hm⟩ := hrel
    by_cases hlh : lo < hi
    · obtain ⟨p, hp⟩ : ∃ p, r[(lo + hi) / 2]? = some p := ⟨_, List.getElem?_eq_getElem (by omega)⟩
      have hrw : Row wr b ((lo + hi) / 2 * 2) (refCells p) := (HR.out _ p hp).mod hm (by simp)
      have HP := Lib.hid hp
      clear hp
      by_cases hc : cmpI p.1 t < 0
      · have hc' : p.1 < t := cmpI_lt.1 hc
        go_wp2_with (first | (refine wpList_load_at rfl 113 (.tmp 27) rfl _ Try.underlying113 rfl 2 infoRef b ((lo + hi) / 2 * 2) (refCells p) rfl hrw rfl ?_) | (go_at_call 131; refine (place1_any p t _).mono ?_; rintro e w' ⟨rfl, hm1⟩))
        go_roundw
        case rel =>
          refine ⟨(lo + hi) / 2 + 1, hi, by go_num, rfl, by omega, h2, ?_, h4, hm.trans_nil hm1⟩
          have F : ∀ (j : Nat) (q : Int × Int), j < (lo + hi) / 2 + 1 → r[j]? = some q → q.1 < t := by
            intro j q hj hq
            by_cases hj2 : j = (lo + hi) / 2
            · subst hj2; rw [HP.out] at hq; cases hq; exact hc'
            · have := HRi.out j _ q p (by omega) hq HP.out
              omega
          exact F
        case measure => simp [intOf]; omega
      · have hc' : t ≤ p.1 := by rw [cmpI_lt] at hc; omega
        go_wp2_with (first | (refine wpList_load_at rfl 113 (.tmp 27) rfl _ Try.underlying113 rfl 2 infoRef b ((lo + hi) / 2 * 2) (refCells p) rfl hrw rfl ?_) | (go_at_call 131; refine (place1_any p t _).mono ?_; rintro e w' ⟨rfl, hm1⟩))
        go_roundw
        case rel =>
          refine ⟨lo, (lo + hi) / 2, rfl, by go_num, by omega, by omega, h3, ?_, hm.trans_nil hm1⟩
          have F : ∀ (j : Nat) (q : Int × Int), (lo + hi) / 2 ≤ j → r[j]? = some q → t ≤ q.1 := by
            intro j q hj hq
            by_cases hj2 : j = (lo + hi) / 2
            · subst hj2; rw [HP.out] at hq; cases hq; exact hc'
            · have := HRi.out _ j p q (by omega) HP.out hq
              omega
          exact F
        case measure => simp [intOf]; omega
    · obtain rfl : lo = hi := by omega
      have cut : CutR r t lo := ⟨h2, h3.out, h4.out⟩
      have CUT := Lib.hid cut
      clear cut
      by_cases hl : lo < r.length
      · obtain ⟨p, hp⟩ : ∃ p, r[lo]? = some p := ⟨_, List.getElem?_eq_getElem hl⟩
        have hrw : Row wr b (lo * 2) (refCells p) := (HR.out _ p hp).mod hm (by simp)
        have hf : foundR r t lo = (cmpI p.1 t == 0) := by
          simp only [foundR, hp, Option.map_some, Option.getD_some]
          rw [Bool.eq_iff_iff, decide_eq_true_eq, beq_iff_eq, cmpI_eq]
        have HF := Lib.hid hf
        clear hp hf
        go_wp2_with (first | (refine wpList_load_at rfl 113 (.tmp 43) rfl _ Try.underlying113 rfl 2 infoRef b (lo * 2) (refCells p) rfl hrw rfl ?_) | (go_at_call 131; refine (place1_any p t _).mono ?_; rintro e w' ⟨rfl, hm1⟩))
        go_ret2
        exact ⟨lo, CUT.out, by rw [HF.out]; rfl, hm.trans_nil hm1⟩
      · have hf : foundR r t lo = false := by simp [foundR, List.getElem?_eq_none (Nat.le_of_not_lt hl)]
        have HF := Lib.hid hf
        clear hf
        go_wp2
        go_ret2
        exact ⟨lo, CUT.out, by rw [HF.out]; rfl, hm⟩

theorem bsearchR_nil (w : World) (t : Int) :
    Calls Try.prog 130 #[.slice none 0 0, .int .i64 t, .func (.func 131) #[] #[]] w (BsPostR [] t w) := by
  go_enter Try.func130, Try.ntmps130
  go_wp2
  refine wp_loop_rounds 1 ?_
  rw [rounds_succ]
  go_wp2
  go_ret2
  exact ⟨0, ⟨by simp, by simp, by simp⟩, rfl, Mod.refl _ _⟩

theorem place_any (w : World) (rv : Value) (r : List (Int × Int)) (t : Int) (h : Refs w rv r) (hr : Rising r) (hl : r.length ≤ 65536) :
    Calls Try.prog 108 #[rv, .int .i64 t] w (BsPostR r t w) := by
  have B : Calls Try.prog 130 #[rv, .int .i64 t, .func (.func 131) #[] #[]] w (BsPostR r t w) := by
    rcases h.shape with ⟨rfl, rfl⟩ | ⟨b, cap, rfl, _, _, _, h1⟩
    · exact bsearchR_nil w t
    · exact bsearchR_any w b cap r t hl h1 hr
  have HB := Lib.hid B
  clear B h hr
  go_enter Try.func108, Try.ntmps108
  go_wp2_with (go_at_call 130; refine HB.out.mono ?_; rintro e w' ⟨k, hc, rfl, hm⟩; have HC := Lib.hid hc; clear hc)
  go_ret2
  exact ⟨k, HC.out, rfl, hm⟩

theorem held_of_cut {r : List (Int × Int)} {t : Int} {k : Nat} (hr : Rising r) (hc : CutR r t k) :
    (foundR r t k = true → ∃ n, r[k]? = some (t, n) ∧ heldL r t = n) ∧ (foundR r t k = false → heldL r t = 0 ∧ ∀ x ∈ r, x.1 ≠ t) := by
  obtain ⟨h1, h2, h3⟩ := hc
  have hfa : ∀ (k : Nat) (n : Int), r[k]? = some (t, n) → heldL r t = n := by
    intro k n hk
    rcases part_refs hr t with ⟨_, h5, _⟩ | ⟨m, h4, h5, _⟩
    · exact absurd rfl (h5 _ (List.mem_of_getElem? hk))
    · obtain ⟨j, hj, he⟩ := List.getElem_of_mem h5
      have e1 := List.getElem?_eq_some_iff.1 hk
      rcases Nat.lt_trichotomy j k with hjk | hjk | hjk
      · have := List.pairwise_iff_getElem.1 hr j k hj e1.1 hjk
        rw [he, e1.2] at this; simp at this
      · subst hjk; have e2 := e1.2; rw [he] at e2; cases e2; exact h4
      · have := List.pairwise_iff_getElem.1 hr k j e1.1 hj hjk
        rw [he, e1.2] at this; simp at this
  constructor
  · intro hf
    unfold foundR at hf
    cases hk : r[k]? with
    | none => rw [hk] at hf; simp at hf
    | some p =>
      rw [hk] at hf
      simp at hf
      obtain ⟨a, n⟩ := p
      simp at hf; subst hf
      exact ⟨n, rfl, hfa k n hk⟩
  · intro hf
    have hall : ∀ x ∈ r, x.1 ≠ t := by
      intro x hx he
      obtain ⟨j, hj, hxj⟩ := List.getElem_of_mem hx
      have hj' : r[j]? = some x := by rw [List.getElem?_eq_getElem hj, hxj]
      rcases Nat.lt_trichotomy j k with hjk | hjk | hjk
      · have := h2 j x hjk hj'; omega
      · subst hjk; unfold foundR at hf; rw [hj'] at hf; simp at hf; exact hf he
      · have hk : k < r.length := by omega
        have e1 := h3 k r[k] (Nat.le_refl _) (List.getElem?_eq_getElem hk)
        have e2 := List.pairwise_iff_getElem.1 hr k j hk hj hjk
        rw [hxj] at e2; omega
    refine ⟨?_, hall⟩
    unfold heldL
    rw [List.find?_eq_none.2 (fun x hx => by simpa using hall x hx)]
    rfl

theorem held_any (w : World) (rv : Value) (r : List (Int × Int)) (t : Int) (h : Refs w rv r) (hr : Rising r) (hl : r.length ≤ 65536) :
    Calls Try.prog 63 #[rv, .int .i64 t] w fun e w' => e = .returned (.int .i64 (heldL r t)) ∧ Mod [] w w' := by
  have B := place_any w rv r t h hr hl
  have HB := Lib.hid B
  have HH := Lib.hid h
  have HRi := Lib.hid hr
  clear B h hr
  go_enter Try.func63, Try.ntmps63
  go_wp2_with fail
  refine HB.out.mono ?_
  rintro e w' ⟨k, hc, rfl, hm⟩
  have hh := held_of_cut HRi.out hc
  have hk := hc.1
  clear hc
  cases hf : foundR r t k with
  | false =>
    have h0 := Lib.hid (hh.2 hf).1
    clear hh hf
    go_wp2
    go_ret
    exact ⟨by rw [h0.out]; rfl, hm⟩
  | true =>
    obtain ⟨n, hn, hv⟩ := hh.1 hf
    have hkl : k < r.length := (List.getElem?_eq_some_iff.1 hn).1
    rcases HH.out.shape with ⟨rfl, rfl⟩ | ⟨b, cap, rfl, _, _, _, h1⟩
    · simp at hkl
    · have hcell : w'.cell? ⟨b, k * 2 + 1, none⟩ = some (.int .i64 n) := hm.cell (h1 k _ hn 1 _ rfl) (by simp)
      have HV := Lib.hid hv
      clear hh hf h1 hn hv
      go_wp2
      go_ret
      exact ⟨by rw [HV.out]; rfl, hm⟩

end Go.Proofs.Ytknkifanpppglaa

/- Walks: total, Count, Ids, Len. -/
namespace Go.Proofs.Ytknkifanpppglaa
open Go.RowKit

theorem total_take (r : List (Int × Int)) (k : Nat) (x : Int × Int) (h : r[k]? = some x) : totalL (r.take (k + 1)) = totalL (r.take k) + x.2 := by
  have e := List.getElem?_eq_some_iff.1 h
  rw [List.take_succ_eq_append_getElem e.1, total_append, e.2]
  simp [totalL]

theorem total_nonneg {r : List (Int × Int)} (h : ∀ x ∈ r, 1 ≤ x.2) : 0 ≤ totalL r := by
  have := held_bounds h 0
  omega

theorem total_take_le {r : List (Int × Int)} (h : ∀ x ∈ r, 1 ≤ x.2) (k : Nat) : 0 ≤ totalL (r.take k) ∧ totalL (r.take k) ≤ totalL r := by
  have h1 : totalL r = totalL (r.take k) + totalL (r.drop k) := by rw [← total_append, List.take_append_drop]
  have h2 := total_nonneg (r := r.take k) (fun x hx => h x (List.mem_of_mem_take hx))
  have h3 := total_nonneg (r := r.drop k) (fun x hx => h x (List.mem_of_mem_drop hx))
  omega

theorem total_any (w : World) (rv : Value) (r : List (Int × Int)) (h : Refs w rv r) (hp : ∀ x ∈ r, 1 ≤ x.2) (ht : totalL r ≤ most) (hl : r.length ≤ 65536) :
    Calls Try.prog 99 #[rv] w fun e w' => e = .returned (.int .i64 (totalL r)) ∧ Mod [] w w' := by
  unfold most at ht
  rcases h.shape with ⟨rfl, rfl⟩ | ⟨b, cap, rfl, _, _, _, hr⟩
  · clear h
    go_enter Try.func99, Try.ntmps99
    go_wp2
    refine wp_loop_rounds 1 ?_
    rw [rounds_succ]
    go_wp2
    go_ret
    exact ⟨rfl, Mod.refl _ _⟩
  · have HR := Lib.hid hr
    have HP := Lib.hid hp
    have hb0 := total_take_le hp
    have HB := Lib.hid hb0
    clear h hr hp hb0
    go_enter Try.func99, Try.ntmps99
    go_wp2
    go_loopw [3, 8] (fun s3 s8 wr => ∃ k : Nat, k ≤ r.length ∧ s8 = .int .i64 k ∧ s3 = .int .i64 (totalL (r.take k)) ∧ Mod [] w wr) (fun _ s8 _ => r.length - (intOf s8).toNat)
    case atStart => exact ⟨0, Nat.zero_le _, rfl, rfl, Mod.refl _ _⟩
    case round =>
      obtain ⟨k, hk, rfl, rfl, hm⟩ := hrel
      by_cases hlt : k < r.length
      · obtain ⟨x, hx⟩ : ∃ x, r[k]? = some x := ⟨_, List.getElem?_eq_getElem hlt⟩
        have hrw : Row wr b (k * 2) [.int .i64 x.1, .int .i64 x.2] := (HR.out _ x hx).mod hm (by simp)
        have hs := total_take r k x hx
        have b1 := HB.out k
        have b2 := HB.out (k + 1)
        rw [hs] at b2
        have b3 := HP.out x (List.mem_of_getElem? hx)
        have HS := Lib.hid hs
        clear hx hs
        go_wp2_with (first | (refine wpList_load_at rfl 113 (.tmp 10) rfl _ Try.underlying113 rfl 2 infoRef b (k * 2) [.int .i64 x.1, .int .i64 x.2] rfl hrw rfl ?_))
        go_roundw
        case rel => exact ⟨k + 1, by omega, by go_num, by rw [HS.out], (hm.alloc _)⟩
        case measure => simp [intOf]; omega
      · go_wp2
        go_ret
        exact ⟨ret_int (by rw [List.take_of_length_le (by omega)]), hm⟩

theorem sty_int : STy Try.prog 52 3 1 8 := STy.mk' (z := .int .i64 0) Try.underlying52 (by kernel_rfl) rfl (by omega)

/-- v reads as the numbers xs -/
def Ints (w : World) (v : Value) (xs : List Int) : Prop := Own w 3 1 v (xs.map fun x => [Value.int .i64 x])
def Fresh (w : World) (v : Value) : Prop := ∀ g, v.ownBlock = some g → w.heap.size ≤ g

theorem Fresh.or {w w1 : World} {v v' : Value} (h : Fresh w v) (ho : FreshOr w1 v v') (hs : w.heap.size ≤ w1.heap.size) : Fresh w v' := by
  intro g hg
  rcases ho with h1 | ⟨g', h1, h2⟩
  · exact h g (by rw [← h1]; exact hg)
  · rw [hg] at h1; cases h1; omega

def FreshN (n : Nat) (v : Value) : Prop := ∀ g, v.ownBlock = some g → n ≤ g
theorem FreshN.or {n : Nat} {w1 : World} {v v' : Value} (h : FreshN n v) (ho : FreshOr w1 v v') (hs : n ≤ w1.heap.size) : FreshN n v' := by
  intro g hg
  rcases ho with h1 | ⟨g', h1, h2⟩
  · exact h g (by rw [← h1]; exact hg)
  · rw [hg] at h1; cases h1; omega
theorem FreshN.nil (n : Nat) : FreshN n (.slice none 0 0) := by intro g hg; simp [Value.ownBlock] at hg
theorem FreshN.mono {n m : Nat} {v : Value} (h : FreshN n v) (hm : m ≤ n) : FreshN m v := fun g hg => Nat.le_trans hm (h g hg)
theorem FreshN.notin {n : Nat} {v : Value} (h : FreshN n v) {b : Nat} (hb : b < n) : b ∉ v.ownBlock.toList := by
  intro hm
  have := h b (by simpa using hm)
  omega

/-- a step that may write a fresh row -/
theorem Mod.fresh {S : List Nat} {w w1 w2 : World} {v : Value} (h : Mod S w w1) (hf : Fresh w v) (h2 : Mod v.ownBlock.toList w1 w2) : Mod S w w2 :=
  h.trans h2 (fun x hx => .inr (hf x (by simpa using hx)))

theorem oneCell_ints (xs : List Int) : ∀ q ∈ xs.map (fun x => [Value.int .i64 x]), ∀ u ∈ q, u.oneCell' = true := by
  intro q hq u hu
  obtain ⟨x, _, rfl⟩ := List.mem_map.1 hq
  simp at hu; subst hu; rfl

theorem Ints.mod0 {w w' : World} (hm : Mod [] w w') {v : Value} {xs : List Int} (h : Ints w v xs) : Ints w' v xs := Own.mod hm h (by simp)

def IntsPost (xs : List Int) (w : World) (e : Ending) (w' : World) : Prop := ∃ v, e = .returned v ∧ Ints w' v xs ∧ Mod [] w w' ∧ Fresh w v

theorem len_any (w : World) (tb mb : Nat) (lv : Value) (l : List Ck) (h : Tab w tb mb lv l) :
    Calls Try.prog 36 #[.pointer (some ⟨tb, 0, none⟩)] w fun e w' => e = .returned (.int .i64 l.length) ∧ w = w' := by
  obtain ⟨cs, M, a1, a2, rfl, a4, a5, a6⟩ := h
  have c0 : w.cell? ⟨tb, 0, none⟩ = some lv := by rw [cell_of_row w tb 0 _ _ _ a1]; rfl
  have hl := cksOf_len cs
  have HL := Lib.hid hl
  rcases a2.shape with ⟨rfl, rfl⟩ | ⟨b, cap, rfl, _, _, _, hr⟩
  · clear a1 a2 a4 a5 a6 hl
    go_enter Try.func36, Try.ntmps36
    go_wp2
    go_ret
    exact ⟨rfl, rfl⟩
  · clear a1 a2 a4 a5 a6 hl hr
    go_enter Try.func36, Try.ntmps36
    go_wp2
    go_ret
    exact ⟨by rw [HL.out]; rfl, rfl⟩

/-- how a loop over a table's chunks begins: what the header gives, for a nil slice and for another -/
theorem Tab.open {w : World} {tb mb : Nat} {lv : Value} {l : List Ck} (h : Tab w tb mb lv l) :
    w.cell? ⟨tb, 0, none⟩ = some lv ∧ w.cell? ⟨tb, 1, none⟩ = some (.map (some mb)) ∧ l.length ≤ 65536 ∧ Inv l ∧
    ((lv = .slice none 0 0 ∧ l = []) ∨ ∃ b cap, lv = .slice (some ⟨b, 0, none⟩) l.length cap ∧ l.length ≤ cap ∧ b < w.heap.size ∧ ∀ k c, l[k]? = some c → ∃ rv, Row w b (k * 23) (c.cells rv) ∧ Refs w rv c.refs ∧ c.dig.length = 16 ∧ CkOk c) := by
  obtain ⟨cs, M, a1, a2, rfl, a4, a5, a6⟩ := h
  refine ⟨by rw [cell_of_row w tb 0 _ _ _ a1]; rfl, by rw [cell_of_row w tb 1 _ _ _ a1]; rfl, inv_len a6, a6, ?_⟩
  rcases a2.shape with ⟨rfl, rfl⟩ | ⟨b, cap, rfl, hb, hc, _, hr⟩
  · exact .inl ⟨rfl, rfl⟩
  · refine .inr ⟨b, cap, by rw [cksOf_len], by rw [cksOf_len]; exact hc, hb, fun k c hk => ?_⟩
    obtain ⟨rv, h1, h2, h3, h4⟩ := a2.at hk
    exact ⟨rv, h2, h3, h4, a6.each c (List.mem_of_getElem? hk)⟩

theorem take_snoc' {α : Type} {l : List α} {k : Nat} {c : α} (h : l[k]? = some c) : l.take (k + 1) = l.take k ++ [c] := by
  have e := List.getElem?_eq_some_iff.1 h
  rw [List.take_succ_eq_append_getElem e.1, e.2]

set_option maxHeartbeats 1000000 in
theorem ids_any (w : World) (tb mb : Nat) (lv : Value) (l : List Ck) (h : Tab w tb mb lv l) :
    Calls Try.prog 32 #[.pointer (some ⟨tb, 0, none⟩)] w (IntsPost (l.map (·.id)) w) := by
  obtain ⟨c0, _, hl, _, hs⟩ := h.open
  clear h
  rcases hs with ⟨rfl, rfl⟩ | ⟨b, cap, rfl, hc, _, hr⟩
  · go_enter Try.func32, Try.ntmps32
    go_wp2
    refine wp_loop_rounds 1 ?_
    rw [rounds_succ]
    go_wp2
    go_ret
    exact ⟨_, rfl, Own.nil _ _ _, Mod.refl _ _, by intro g hg; simp [Value.ownBlock] at hg⟩
  · have HR := Lib.hid hr
    clear hr
    go_enter Try.func32, Try.ntmps32
    go_wp2
    go_loopw [3, 11] (fun s3 s11 wr => ∃ k : Nat, k ≤ l.length ∧ s11 = .int .i64 k ∧ Ints wr s3 ((l.take k).map (·.id)) ∧ Fresh w s3 ∧ Mod [] w wr) (fun _ s11 _ => l.length - (intOf s11).toNat)
    case atStart => exact ⟨0, Nat.zero_le _, rfl, Own.nil _ _ _, by intro g hg; simp [Value.ownBlock] at hg, Mod.refl _ _⟩
    case round =>
      obtain ⟨k, hk, rfl, hown, hfr, hm⟩ := hrel

      by_cases hlt : k < l.length
      · obtain ⟨c, hx⟩ : ∃ c, l[k]? = some c := ⟨_, List.getElem?_eq_getElem hlt⟩
        obtain ⟨rv, hrw, hrf, hd, _⟩ := HR.out k c hx
        have hrw1 := hrw.mod hm (by simp)
        have hrf1 := hrf.one
        have HX := Lib.hid hx
        have HO := Lib.hid hown
        have HRF := Lib.hid hrf1
        have HD := Lib.hid hd
        clear hx hown hrw hrf hrf1 hd
        go_wp2_with (first | (refine wpList_load_at rfl 45 (.tmp 13) rfl _ Try.underlying45 rfl 23 info45 b (k * 23) (c.cells rv) rfl hrw1 (by rw [Ck.cells_len, HD.out]) ?_) | (refine wpList_store_at rfl 45 (.tmp 5) (.tmp 14) rfl 23 info45 wr.heap.size 0 45 zeroCells (c.cells rv) rfl rfl (heap_alloc_at _ _) (by rw [Ck.cells_len, HD.out]) (oneCell_ck HRF.out) (by simp [zeroCells, Ck.cells_len, HD.out]) ?_; intro w2 hhw2 hsw2; have hmw2 := ((Mod.refl [] wr).alloc (.cells zeroCells.toArray 45)).trans hsw2 (by simp); rw [splice_all _ _ (by simp [zeroCells, Ck.cells_len, HD.out])] at hhw2; have roww2 := Row.of_heap hhw2; have HHw2 := Lib.hid hhw2; clear hhw2; have c1 : w2.cell? ⟨wr.heap.size, 0, none⟩ = some (.int .i64 c.id) := roww2 0 _ rfl) | (at_builtin; refine wpList_append_Own sty_int rfl (.tmp 15) (.tmp 18) rfl u3 (.slice (some ⟨w2.heap.size, 0, none⟩) 1 1) rfl rfl _ [[Value.int .i64 c.id]] (Ints.mod0 (hmw2.alloc _) HO.out) (Src.one rfl (Row.of_heap (heap_alloc_at _ _))) (by simp [Value.oneCell']) (by simp [maxLen]; omega) (by simp; omega) ?_; intro v' w3 hown' hm3 hfr'))
        go_roundw
        case rel =>
          refine ⟨k + 1, by omega, by go_num, ?_, hfr.or hfr' (by have := hm.size; have := hmw2.size; simp; omega), ((hm.trans_nil hmw2).alloc _).fresh hfr hm3⟩
          rw [take_snoc' HX.out]
          simpa [Ints] using hown'
        case measure => simp [intOf]; omega
      · have HO := Lib.hid hown
        clear hown
        go_wp2
        go_ret
        refine ⟨u3, rfl, ?_, hm, hfr⟩
        have := HO.out
        rwa [List.take_of_length_le (by omega)] at this

end Go.Proofs.Ytknkifanpppglaa

/- Equality of digests. -/
namespace Go.Proofs.Ytknkifanpppglaa
open Go.RowKit

theorem info5 : (Try.prog.info? 5).map (·.size) = some 1 := by kernel_rfl
theorem info42 : (Try.prog.info? 42).map (·.size) = some 16 := by kernel_rfl
theorem guard42 : Try.prog.eqGuardType Try.prog.depth 42 = false := by kernel_rfl

theorem part_u8 (cs : Array Value) (off : Nat) (v : Value) (h : cs[off]? = some v) (w : World) : (part 5 cs off).run Try.prog w = .ok v w := by
  simp [part, isAgg, run_underlying Try.underlying5, h]

theorem size_u8 (w : World) : (sizeOf 5).run Try.prog w = .ok 1 w := by
  cases hq : Try.prog.info? 5 with
  | none => have := info5; simp [hq] at this
  | some i =>
    have hs : i.size = 1 := by have := info5; simpa [hq] using this
    simp [sizeOf, typeInfo, hq, hs]

theorem equalIn_u8 (d : Nat) (a b : Int) (w : World) : (Op.equalIn (d + 1) 5 (.int .u8 a) (.int .u8 b)).run Try.prog w = .ok (a == b) w := by
  unfold Op.equalIn
  simp [run_underlying Try.underlying5]

def digV (d : List Int) : Value := .agg (d.map (Value.int .u8)).toArray

theorem equalIn_dig (d : Nat) (a b : List Int) (ha : a.length = 16) (hb : b.length = 16) (w : World) :
    (Op.equalIn (d + 2) 42 (digV a) (digV b)).run Try.prog w = .ok (decide (a = b)) w := by
  match a, ha with
  | [a0, a1, a2, a3, a4, a5, a6, a7, a8, a9, a10, a11, a12, a13, a14, a15], _ =>
    match b, hb with
    | [b0, b1, b2, b3, b4, b5, b6, b7, b8, b9, b10, b11, b12, b13, b14, b15], _ =>
      unfold Op.equalIn
      simp [digV, run_underlying Try.underlying42]
      simp [List.range', part_u8, equalIn_u8]
      by_cases h0 : ¬ a0 = b0
      · rw [if_neg h0]; simp [h0]
      replace h0 := Decidable.not_not.1 h0
      rw [if_pos h0]
      by_cases h1 : ¬ a1 = b1
      · rw [if_neg h1]; simp [h1]
      replace h1 := Decidable.not_not.1 h1
      rw [if_pos h1]
      by_cases h2 : ¬ a2 = b2
      · rw [if_neg h2]; simp [h2]
      replace h2 := Decidable.not_not.1 h2
      rw [if_pos h2]
      by_cases h3 : ¬ a3 = b3
      · rw [if_neg h3]; simp [h3]
      replace h3 := Decidable.not_not.1 h3
      rw [if_pos h3]
      by_cases h4 : ¬ a4 = b4
      · rw [if_neg h4]; simp [h4]
      replace h4 := Decidable.not_not.1 h4
      rw [if_pos h4]
      by_cases h5 : ¬ a5 = b5
      · rw [if_neg h5]; simp [h5]
      replace h5 := Decidable.not_not.1 h5
      rw [if_pos h5]
      by_cases h6 : ¬ a6 = b6
      · rw [if_neg h6]; simp [h6]
      replace h6 := Decidable.not_not.1 h6
      rw [if_pos h6]
      by_cases h7 : ¬ a7 = b7
      · rw [if_neg h7]; simp [h7]
      replace h7 := Decidable.not_not.1 h7
      rw [if_pos h7]
      by_cases h8 : ¬ a8 = b8
      · rw [if_neg h8]; simp [h8]
      replace h8 := Decidable.not_not.1 h8
      rw [if_pos h8]
      by_cases h9 : ¬ a9 = b9
      · rw [if_neg h9]; simp [h9]
      replace h9 := Decidable.not_not.1 h9
      rw [if_pos h9]
      by_cases h10 : ¬ a10 = b10
      · rw [if_neg h10]; simp [h10]
      replace h10 := Decidable.not_not.1 h10
      rw [if_pos h10]
      by_cases h11 : ¬ a11 = b11
      · rw [if_neg h11]; simp [h11]
      replace h11 := Decidable.not_not.1 h11
      rw [if_pos h11]
      by_cases h12 : ¬ a12 = b12
      · rw [if_neg h12]; simp [h12]
      replace h12 := Decidable.not_not.1 h12
      rw [if_pos h12]
      by_cases h13 : ¬ a13 = b13
      · rw [if_neg h13]; simp [h13]
      replace h13 := Decidable.not_not.1 h13
      rw [if_pos h13]
      by_cases h14 : ¬ a14 = b14
      · rw [if_neg h14]; simp [h14]
      replace h14 := Decidable.not_not.1 h14
      rw [if_pos h14]
      by_cases h15 : ¬ a15 = b15
      · rw [if_neg h15]; simp [h15]
      replace h15 := Decidable.not_not.1 h15
      rw [if_pos h15]
      simp [h0, h1, h2, h3, h4, h5, h6, h7, h8, h9, h10, h11, h12, h13, h14, h15]

theorem equal_dig (a b : List Int) (ha : a.length = 16) (hb : b.length = 16) (w : World) : (binOp .eql 42 (digV a) (digV b)).run Try.prog w = .ok (.bool (decide (a = b))) w := by
  have h := equalIn_dig 9998 a b ha hb w
  simp only [binOp, digV]
  simp [Op.equal, Op.maxDepth]
  rw [show (10000 : Nat) = 9998 + 2 from rfl]
  unfold digV at h
  rw [h]
  rfl

theorem nequal_dig (a b : List Int) (ha : a.length = 16) (hb : b.length = 16) (w : World) : (binOp .neq 42 (digV a) (digV b)).run Try.prog w = .ok (.bool (!decide (a = b))) w := by
  have h := equalIn_dig 9998 a b ha hb w
  simp only [binOp, digV]
  simp [Op.equal, Op.maxDepth]
  rw [show (10000 : Nat) = 9998 + 2 from rfl]
  unfold digV at h
  rw [h]
  rfl

/-- the digest inside a chunk's row -/
theorem Ck.digRow {w : World} {b off : Nat} {c : Ck} {rv : Value} (h : Row w b off (c.cells rv)) : Row w b (off + 1) (c.dig.map (Value.int .u8)) := by
  intro j u hu
  rw [List.getElem?_map, Option.map_eq_some_iff] at hu
  obtain ⟨x, hx, rfl⟩ := hu
  have := h (1 + j) _ (Ck.cd rv j x hx)
  rwa [show off + (1 + j) = off + 1 + j by omega] at this

theorem digLoad {w : World} {b off : Nat} {d : List Int} (h : Row w b off (d.map (Value.int .u8))) (hd : d.length = 16) : (loadVar 42 ⟨b, off, none⟩).run Try.prog w = .ok (digV d) w :=
  run_loadVar_at w b off _ _ _ h Try.underlying42 rfl (by rw [info42]; simp [hd])

end Go.Proofs.Ytknkifanpppglaa

/- Walks: At, Live, Lost, Count. -/
namespace Go.Proofs.Ytknkifanpppglaa
open Go.RowKit

theorem Tab.map {w : World} {tb mb : Nat} {lv : Value} {l : List Ck} (h : Tab w tb mb lv l) : ∃ M, MapIs w mb M ∧ ∀ u, mget M u = atU l u := by
  obtain ⟨cs, M, a1, a2, rfl, a4, a5, a6⟩ := h
  exact ⟨M, a4, a5⟩

/-- what the map answers -/
theorem Tab.lookup {w : World} {tb mb : Nat} {lv : Value} {l : List Ck} (h : Tab w tb mb lv l) (u : U3) :
    (Instr.lookup 118 (.map (some mb)) (.agg #[.int .i64 u.row, .int .i64 u.group, .int .i64 u.unit]) true).run Try.prog w = .ok (.tuple #[.int .i64 ((atU l u).getD 0), .bool (atU l u).isSome]) w := by
  obtain ⟨M, h1, h2⟩ := h.map
  have := run_lookup_unit w mb M u h1
  rw [h2] at this
  exact this

theorem at_any (w : World) (tb mb : Nat) (lv : Value) (l : List Ck) (u : U3) (h : Tab w tb mb lv l) :
    Calls Try.prog 18 #[.pointer (some ⟨tb, 0, none⟩), .agg #[.int .i64 u.row, .int .i64 u.group, .int .i64 u.unit]] w
      fun e w' => e = .returned (.tuple #[.int .i64 ((atU l u).getD 0), .bool (atU l u).isSome]) ∧ Mod [] w w' := by
  have c1 := h.open.2.1
  have hlk : ∀ (o : Obj) (n : Nat), (Instr.lookup 118 (.map (some mb)) (.agg #[.int .i64 u.row, .int .i64 u.group, .int .i64 u.unit]) true).run Try.prog ((w.alloc o).drewN n) = .ok (.tuple #[.int .i64 ((atU l u).getD 0), .bool (atU l u).isSome]) ((w.alloc o).drewN n) :=
    fun o n => (h.mod0 (((Mod.refl _ _).alloc o).drewN n)).lookup u
  have htb := Go.block_lt_of_cell c1
  clear h
  generalize (atU l u).getD 0 = r0 at *
  generalize (atU l u).isSome = r1 at *
  go_enter Try.func18, Try.ntmps18
  go_wp2
  go_quiet (fail)
  go_wp2
  go_ret2
  exact ⟨rfl, ((Mod.refl _ _).alloc _).drewN _⟩

def liveTo (l : List Ck) (row group : Int) (k : Nat) : List Int := (List.range k).filterMap (fun (n : Nat) => atU l ⟨row, group, (n : Int)⟩)
theorem liveTo_succ (l : List Ck) (row group : Int) (k : Nat) : liveTo l row group (k + 1) = liveTo l row group k ++ (atU l ⟨row, group, (k : Int)⟩).toList := by
  unfold liveTo
  rw [List.range_succ, List.filterMap_append]
  cases h : atU l ⟨row, group, (k : Int)⟩ <;> simp [h]
theorem liveTo_len (l : List Ck) (row group : Int) (k : Nat) : (liveTo l row group k).length ≤ k := by
  have := List.length_filterMap_le (fun (n : Nat) => atU l ⟨row, group, (n : Int)⟩) (List.range k)
  simpa [liveTo] using this

set_option maxHeartbeats 1000000 in
theorem live_any (w : World) (tb mb : Nat) (lv : Value) (l : List Ck) (row group : Int) (h : Tab w tb mb lv l) :
    Calls Try.prog 22 #[.pointer (some ⟨tb, 0, none⟩), .agg #[.int .i64 row, .int .i64 group]] w (IntsPost (liveL l row group) w) := by
  have c1 := h.open.2.1
  have htb := Go.block_lt_of_cell c1
  have HT := Lib.hid h
  clear h
  go_enter Try.func22, Try.ntmps22
  go_wp2
  go_loopw [5, 9] (fun s5 s9 wr => ∃ k : Nat, k ≤ 32 ∧ s9 = .int .i64 k ∧ Hid (Ints wr s5 (liveTo l row group k)) ∧ FreshN (w.heap.size + 1) s5 ∧ Mod [] w wr ∧ wr.cell? ⟨w.heap.size, 0, none⟩ = some (.int .i64 row) ∧ wr.cell? ⟨w.heap.size, 1, none⟩ = some (.int .i64 group)) (fun _ s9 _ => 32 - (intOf s9).toNat)
  case atStart => exact ⟨0, by omega, rfl, Own.nil _ _ _, FreshN.nil _, (Mod.refl _ _).alloc _, by simp, by simp⟩
  case round =>
    obtain ⟨k, hk, rfl, HO, hfr, hm, d0, d1⟩ := hrel
    have c1' : wr.cell? ⟨tb, 1, none⟩ = some (.map (some mb)) := hm.cell c1 (by simp)
    have hlk : ∀ (n : Nat), (Instr.lookup 118 (.map (some mb)) (.agg #[.int .i64 row, .int .i64 group, .int .i64 k]) true).run Try.prog (wr.drewN n) = .ok (.tuple #[.int .i64 ((atU l ⟨row, group, k⟩).getD 0), .bool (atU l ⟨row, group, k⟩).isSome]) (wr.drewN n) :=
      fun n => (HT.out.mod0 (hm.drewN n)).lookup ⟨row, group, k⟩
    have hll := liveTo_len l row group k
    by_cases hlt : k < 32
    · cases ha : atU l ⟨row, group, k⟩ with
      | none =>
        rw [ha] at hlk
        simp only [Option.getD_none, Option.isSome_none] at hlk
        have HA := Lib.hid ha
        clear ha c1
        go_wp2
        go_quiet (fail)
        go_wp2
        go_roundw
        case rel =>
          refine ⟨k + 1, by omega, by go_num, ?_, hfr, hm.drewN _, d0, d1⟩
          have e := liveTo_succ l row group k
          rw [HA.out] at e
          show Ints _ _ _
          rw [e]
          simpa using Ints.mod0 ((Mod.refl _ wr).drewN _) HO.out
        case measure => simp [intOf]; omega
      | some id =>
        rw [ha] at hlk
        simp only [Option.getD_some, Option.isSome_some] at hlk
        have HA := Lib.hid ha
        clear ha c1
        go_wp2
        go_quiet (fail)
        go_wp2_with (first | (at_builtin; refine wpList_append_Own sty_int rfl (.tmp 24) (.tmp 26) rfl u5 (.slice (some ⟨(wr.drewN nq).heap.size, 0, none⟩) 1 1) rfl rfl _ [[Value.int .i64 id]] (Ints.mod0 (((Mod.refl [] wr).drewN _).alloc _) HO.out) (Src.one rfl (Row.of_heap (heap_alloc_at _ _))) (by simp [Value.oneCell']) (by simp [maxLen]; omega) (by simp; omega) ?_; intro v' w3 hown' hm3 hfr'; have hm03 := ((hm.drewN nq).alloc (.cells #[.int .i64 id] 3)).fresh (FreshN.mono hfr (Nat.le_succ _)) hm3; have d0' := hm3.cell (b := w.heap.size) (((Mod.refl [] wr).drewN nq |>.alloc (.cells #[.int .i64 id] 3)).cell d0 (by simp)) (hfr.notin (Nat.lt_succ_self _)); have d1' := hm3.cell (b := w.heap.size) (((Mod.refl [] wr).drewN nq |>.alloc (.cells #[.int .i64 id] 3)).cell d1 (by simp)) (hfr.notin (Nat.lt_succ_self _))))
        go_roundw
        case rel =>
          have hsz := Go.block_lt_of_cell d0
          refine ⟨k + 1, by omega, by go_num, ?_, hfr.or hfr' (by simp at hsz ⊢; omega), hm03, d0', d1'⟩
          have e := liveTo_succ l row group k
          rw [HA.out] at e
          show Ints _ _ _
          rw [e]
          simpa [Ints] using hown'
        case measure => simp [intOf]; omega
    · obtain rfl : k = 32 := by omega
      clear hlk
      go_wp2
      go_ret
      exact ⟨u5, rfl, HO.out, hm, FreshN.mono hfr (Nat.le_succ _)⟩

theorem equal_digL {a b : List Int} (A B : List Value) (hA : A = a.map (Value.int .u8)) (hB : B = b.map (Value.int .u8)) (ha : a.length = 16) (hb : b.length = 16) (w : World) :
    (binOp .eql 42 (.agg A.toArray) (.agg B.toArray)).run Try.prog w = .ok (.bool (decide (a = b))) w := by
  subst hA hB
  exact equal_dig a b ha hb w

theorem lost_snoc (l : List Ck) (d : List Int) (k : Nat) (c : Ck) (h : l[k]? = some c) : lostL (l.take (k + 1)) d = lostL (l.take k) d ++ (if c.lost && c.dig == d then [c.id] else []) := by
  unfold lostL
  rw [take_snoc' h, List.filter_append, List.map_append]
  cases hc : (c.lost && c.dig == d) <;> simp [hc]

theorem lost_len (l : List Ck) (d : List Int) (k : Nat) : (lostL (l.take k) d).length ≤ k := by
  have h1 := List.length_filter_le (fun c : Ck => c.lost && c.dig == d) (l.take k)
  have h2 := List.length_take_le k l
  simp [lostL]
  omega

set_option maxHeartbeats 2000000 in
theorem lost_any (w : World) (tb mb : Nat) (lv : Value) (l : List Ck) (d : List Int) (hd16 : d.length = 16) (h : Tab w tb mb lv l) :
    Calls Try.prog 24 #[.pointer (some ⟨tb, 0, none⟩), digV d] w (IntsPost (lostL l d) w) := by
  obtain ⟨c0, _, hl, _, hs⟩ := h.open
  have htb := Go.block_lt_of_cell c0
  clear h
  obtain ⟨D, hD⟩ : ∃ D, D = d.map (Value.int .u8) := ⟨_, rfl⟩
  have hDl : D.length = 16 := by rw [hD]; simp [hd16]
  have eD : digV d = .agg D.toArray := by rw [hD]; rfl
  rw [eD]
  have HDD := Lib.hid hD
  clear eD hD
  rcases hs with ⟨rfl, rfl⟩ | ⟨b, cap, rfl, hc, hb, hr⟩
  · clear hd16
    go_enter Try.func24, Try.ntmps24
    go_wp2
    refine wp_loop_rounds 1 ?_
    rw [rounds_succ]
    go_wp2
    go_ret
    exact ⟨_, rfl, Own.nil _ _ _, (Mod.refl _ _).alloc _, FreshN.nil _⟩
  · have HR := Lib.hid hr
    have Hd := Lib.hid hd16
    have HDl := Lib.hid hDl
    clear hr hd16 hDl
    go_enter Try.func24, Try.ntmps24
    go_wp2
    go_loopw [5, 13] (fun s5 s13 wr => ∃ k : Nat, k ≤ l.length ∧ s13 = .int .i64 k ∧ Hid (Ints wr s5 (lostL (l.take k) d)) ∧ FreshN (w.heap.size + 1) s5 ∧ Mod [] w wr ∧ Row wr w.heap.size 0 D ∧ w.heap.size < wr.heap.size) (fun _ s13 _ => l.length - (intOf s13).toNat)
    case atStart => exact ⟨0, Nat.zero_le _, rfl, Own.nil _ _ _, FreshN.nil _, (Mod.refl _ _).alloc _, Row.of_heap (heap_alloc_at w _), by simp⟩
    case round =>
      obtain ⟨k, hk, rfl, HO, hfr, hm, hrD, hsz⟩ := hrel
      by_cases hlt : k < l.length
      · obtain ⟨c, hx⟩ : ∃ c, l[k]? = some c := ⟨_, List.getElem?_eq_getElem hlt⟩
        obtain ⟨rv, hrw, hrf, hd, _⟩ := HR.out k c hx
        have hrw1 := hrw.mod hm (by simp)
        have hrf1 := hrf.one
        have hsn := lost_snoc l d k c hx
        have hln := lost_len l d k
        obtain ⟨C, hC⟩ : ∃ C, C = c.dig.map (Value.int .u8) := ⟨_, rfl⟩
        have hCl : C.length = 16 := by rw [hC]; simp [hd]
        have heq := equal_digL C D hC HDD.out hd Hd.out
        have HRF := Lib.hid hrf1
        have HD := Lib.hid hd
        have HC := Lib.hid hC
        have HCl := Lib.hid hCl
        have HEq := Lib.hid heq
        clear hx hrw hrf hrf1 hd hC hCl heq
        cases hlost : c.lost with
        | false =>
          rw [hlost] at hsn
          have HS := Lib.hid hsn
          have HL := Lib.hid hlost
          clear hsn hlost
          go_wp2_with (first | (refine wpList_load_at rfl 45 (.tmp 15) rfl _ Try.underlying45 rfl 23 info45 b (k * 23) (c.cells rv) rfl hrw1 (by rw [Ck.cells_len, HD.out]) ?_) | (refine wpList_store_at rfl 45 (.tmp 7) (.tmp 16) rfl 23 info45 wr.heap.size 0 45 zeroCells (c.cells rv) rfl rfl (heap_alloc_at _ _) (by rw [Ck.cells_len, HD.out]) (oneCell_ck HRF.out) (by simp [zeroCells, Ck.cells_len, HD.out]) ?_; intro w2 hhw2 hsw2; have hmw2 := ((Mod.refl [] wr).alloc (.cells zeroCells.toArray 45)).trans hsw2 (by simp); rw [splice_all _ _ (by simp [zeroCells, Ck.cells_len, HD.out])] at hhw2; have roww2 := Row.of_heap hhw2; have HHw2 := Lib.hid hhw2; clear hhw2; have c21 : w2.cell? ⟨wr.heap.size, 21, none⟩ = some (.bool false) := (roww2 21 _ (by rw [Ck.c21 HD.out, HL.out]))))
          go_roundw
          case rel =>
            refine ⟨k + 1, by omega, by go_num, ?_, hfr, hm.trans_nil hmw2, hrD.mod hmw2 (by simp), by have := hmw2.size; omega⟩
            show Ints _ _ _
            rw [HS.out]
            simpa using Ints.mod0 hmw2 HO.out
          case measure => simp [intOf]; omega
        | true =>
          rw [hlost] at hsn
          have HL := Lib.hid hlost
          clear hlost
          by_cases hdd : c.dig = d
          · rw [hdd] at hsn
            have HS := Lib.hid hsn
            have hq : ∀ w, (binOp .eql 42 (.agg C.toArray) (.agg D.toArray)).run Try.prog w = .ok (.bool true) w := fun w => by rw [HEq.out]; simp [hdd]
            clear hsn
            have HDD2 := Lib.hid hdd
            clear hdd
            go_wp2_with (first | (refine wpList_load_at rfl 45 (.tmp 15) rfl _ Try.underlying45 rfl 23 info45 b (k * 23) (c.cells rv) rfl hrw1 (by rw [Ck.cells_len, HD.out]) ?_) | (refine wpList_store_at rfl 45 (.tmp 7) (.tmp 16) rfl 23 info45 wr.heap.size 0 45 zeroCells (c.cells rv) rfl rfl (heap_alloc_at _ _) (by rw [Ck.cells_len, HD.out]) (oneCell_ck HRF.out) (by simp [zeroCells, Ck.cells_len, HD.out]) ?_; intro w2 hhw2 hsw2; have hmw2 := ((Mod.refl [] wr).alloc (.cells zeroCells.toArray 45)).trans hsw2 (by simp); rw [splice_all _ _ (by simp [zeroCells, Ck.cells_len, HD.out])] at hhw2; have roww2 := Row.of_heap hhw2; have HHw2 := Lib.hid hhw2; clear hhw2; have c21 : w2.cell? ⟨wr.heap.size, 21, none⟩ = some (.bool true) := (roww2 21 _ (by rw [Ck.c21 HD.out, HL.out])); have c00 : w2.cell? ⟨wr.heap.size, 0, none⟩ = some (.int .i64 c.id) := roww2 0 _ rfl; have rC : Row w2 wr.heap.size 1 C := (by rw [HC.out]; exact Ck.digRow roww2); have rD : Row w2 w.heap.size 0 D := hrD.mod hmw2 (by simp)) | (refine wpList_load_at rfl 42 (.tmp 20) rfl _ Try.underlying42 rfl 16 info42 wr.heap.size (1) (C) rfl rC HCl.out ?_) | (refine wpList_load_at rfl 42 (.tmp 3) rfl _ Try.underlying42 rfl 16 info42 w.heap.size (0) (D) rfl rD HDl.out ?_) | (at_builtin; refine wpList_append_Own sty_int rfl (.tmp 25) (.tmp 28) rfl u5 (.slice (some ⟨w2.heap.size, 0, none⟩) 1 1) rfl rfl _ [[Value.int .i64 c.id]] (Ints.mod0 (hmw2.alloc _) HO.out) (Src.one rfl (Row.of_heap (heap_alloc_at _ _))) (by simp [Value.oneCell']) (by simp [maxLen]; omega) (by simp; omega) ?_; intro v' w3 hown' hm3 hfr'))
            go_roundw
            case rel =>
              have s2 := hmw2.size
              refine ⟨k + 1, by omega, by go_num, ?_, hfr.or hfr' (by simp; omega), ((hm.trans_nil hmw2).alloc _).fresh (hfr.mono (Nat.le_succ _)) hm3, ?_, ?_⟩
              · show Ints _ _ _
                rw [HS.out]
                simpa [Ints] using hown'
              · exact (rD.mod ((Mod.refl [] w2).alloc _) (by simp)).mod hm3 (hfr.notin (Nat.lt_succ_self _))
              · have := hm3.size; simp at this; omega
            case measure => simp [intOf]; omega
          · have e : (c.dig == d) = false := by simpa using hdd
            rw [e] at hsn
            have HS := Lib.hid hsn
            have hq : ∀ w, (binOp .eql 42 (.agg C.toArray) (.agg D.toArray)).run Try.prog w = .ok (.bool false) w := fun w => by rw [HEq.out]; simp [hdd]
            clear hsn e hdd
            go_wp2_with (first | (refine wpList_load_at rfl 45 (.tmp 15) rfl _ Try.underlying45 rfl 23 info45 b (k * 23) (c.cells rv) rfl hrw1 (by rw [Ck.cells_len, HD.out]) ?_) | (refine wpList_store_at rfl 45 (.tmp 7) (.tmp 16) rfl 23 info45 wr.heap.size 0 45 zeroCells (c.cells rv) rfl rfl (heap_alloc_at _ _) (by rw [Ck.cells_len, HD.out]) (oneCell_ck HRF.out) (by simp [zeroCells, Ck.cells_len, HD.out]) ?_; intro w2 hhw2 hsw2; have hmw2 := ((Mod.refl [] wr).alloc (.cells zeroCells.toArray 45)).trans hsw2 (by simp); rw [splice_all _ _ (by simp [zeroCells, Ck.cells_len, HD.out])] at hhw2; have roww2 := Row.of_heap hhw2; have HHw2 := Lib.hid hhw2; clear hhw2; have c21 : w2.cell? ⟨wr.heap.size, 21, none⟩ = some (.bool true) := (roww2 21 _ (by rw [Ck.c21 HD.out, HL.out])); have rC : Row w2 wr.heap.size 1 C := (by rw [HC.out]; exact Ck.digRow roww2); have rD : Row w2 w.heap.size 0 D := hrD.mod hmw2 (by simp)) | (refine wpList_load_at rfl 42 (.tmp 20) rfl _ Try.underlying42 rfl 16 info42 wr.heap.size (1) (C) rfl rC HCl.out ?_) | (refine wpList_load_at rfl 42 (.tmp 3) rfl _ Try.underlying42 rfl 16 info42 w.heap.size (0) (D) rfl rD HDl.out ?_))
            go_roundw
            case rel =>
              refine ⟨k + 1, by omega, by go_num, ?_, hfr, hm.trans_nil hmw2, hrD.mod hmw2 (by simp), by have := hmw2.size; omega⟩
              show Ints _ _ _
              rw [HS.out]
              simpa using Ints.mod0 hmw2 HO.out
            case measure => simp [intOf]; omega
      · go_wp2
        go_ret
        refine ⟨u5, rfl, ?_, hm, hfr.mono (Nat.le_succ _)⟩
        have := HO.out
        rwa [List.take_of_length_le (by omega)] at this

end Go.Proofs.Ytknkifanpppglaa

/- Walks: Count; leave, Move, Lose; the writing of a chunk's cell. -/
namespace Go.Proofs.Ytknkifanpppglaa
open Go.RowKit

theorem count_snoc (l : List Ck) (t : Int) (k : Nat) (c : Ck) (h : l[k]? = some c) : countL (l.take (k + 1)) t = countL (l.take k) t + heldL c.refs t := by
  unfold countL
  rw [take_snoc' h, List.map_append, List.sum_append_int]
  simp

theorem count_bounds {l : List Ck} (h : ∀ c ∈ l, CkOk c) (t : Int) : 0 ≤ countL l t ∧ countL l t ≤ l.length * 2147483647 := by
  induction l with
  | nil => simp [countL]
  | cons c l ih =>
    have h1 := ih (fun x hx => h x (by simp [hx]))
    have h2 := h c (by simp)
    have h3 := held_bounds (fun x hx => (h2.ref1 x hx).2.2) t
    have h4 := h2.tot
    unfold most at h4
    have e : countL (c :: l) t = heldL c.refs t + countL l t := by simp [countL]
    rw [e, List.length_cons]
    push_cast
    omega

theorem count_take_bounds {l : List Ck} (h : ∀ c ∈ l, CkOk c) (hl : l.length ≤ 65536) (t : Int) (k : Nat) : 0 ≤ countL (l.take k) t ∧ countL (l.take k) t ≤ 140737488355328 := by
  have h1 := count_bounds (l := l.take k) (fun c hc => h c (List.mem_of_mem_take hc)) t
  have h2 := List.length_take_le k l
  have h3 : (l.take k).length ≤ l.length := by simp; omega
  omega

set_option maxHeartbeats 1000000 in
theorem count_any (w : World) (tb mb : Nat) (lv : Value) (l : List Ck) (t : Int) (h : Tab w tb mb lv l) :
    Calls Try.prog 27 #[.pointer (some ⟨tb, 0, none⟩), .int .i64 t] w fun e w' => e = .returned (.int .i64 (countL l t)) ∧ Mod [] w w' := by
  obtain ⟨c0, _, hl, hinv, hs⟩ := h.open
  have htb := Go.block_lt_of_cell c0
  have hcb := fun k => count_take_bounds hinv.each hl t k
  clear h
  rcases hs with ⟨rfl, rfl⟩ | ⟨b, cap, rfl, hc, hb, hr⟩
  · clear hcb hinv
    go_enter Try.func27, Try.ntmps27
    go_wp2
    refine wp_loop_rounds 1 ?_
    rw [rounds_succ]
    go_wp2
    go_ret
    exact ⟨rfl, Mod.refl _ _⟩
  · have HR := Lib.hid hr
    have HB := Lib.hid hcb
    clear hr hcb hinv
    go_enter Try.func27, Try.ntmps27
    go_wp2
    go_loopw [5, 13] (fun s5 s13 wr => ∃ k : Nat, k ≤ l.length ∧ s13 = .int .i64 k ∧ s5 = .int .i64 (countL (l.take k) t) ∧ Mod [] w wr) (fun _ s13 _ => l.length - (intOf s13).toNat)
    case atStart => exact ⟨0, Nat.zero_le _, rfl, rfl, Mod.refl _ _⟩
    case round =>
      obtain ⟨k, hk, rfl, rfl, hm⟩ := hrel
      by_cases hlt : k < l.length
      · obtain ⟨c, hx⟩ : ∃ c, l[k]? = some c := ⟨_, List.getElem?_eq_getElem hlt⟩
        obtain ⟨rv, hrw, hrf, hd, hok⟩ := HR.out k c hx
        have hrw1 := hrw.mod hm (by simp)
        have hrf1 := hrf.one
        have hrfm := hrf.mod0 hm
        have hsn := count_snoc l t k c hx
        have b1 := HB.out k
        have b2 := HB.out (k + 1)
        rw [hsn] at b2
        have hrl := hok.len
        have hri := hok.refs
        have hhb := held_bounds (fun x hx => (hok.ref1 x hx).2.2) t
        have hht := hok.tot
        unfold most at hht
        have HRF := Lib.hid hrf1
        have HRM := Lib.hid hrfm
        have HD := Lib.hid hd
        have HS := Lib.hid hsn
        have HRI := Lib.hid hri
        clear hx hrw hrf hrf1 hd hsn hrfm hri hok
        go_wp2_with (first | (refine wpList_load_at rfl 45 (.tmp 15) rfl _ Try.underlying45 rfl 23 info45 b (k * 23) (c.cells rv) rfl hrw1 (by rw [Ck.cells_len, HD.out]) ?_) | (refine wpList_store_at rfl 45 (.tmp 7) (.tmp 16) rfl 23 info45 wr.heap.size 0 45 zeroCells (c.cells rv) rfl rfl (heap_alloc_at _ _) (by rw [Ck.cells_len, HD.out]) (oneCell_ck HRF.out) (by simp [zeroCells, Ck.cells_len, HD.out]) ?_; intro w2 hhw2 hsw2; have hmw2 := ((Mod.refl [] wr).alloc (.cells zeroCells.toArray 45)).trans hsw2 (by simp); rw [splice_all _ _ (by simp [zeroCells, Ck.cells_len, HD.out])] at hhw2; have roww2 := Row.of_heap hhw2; have HHw2 := Lib.hid hhw2; clear hhw2; have c22 : w2.cell? ⟨wr.heap.size, 22, none⟩ = some rv := (roww2 22 _ (Ck.c22 HD.out rv))) | (go_at_call 63; refine (held_any w2 rv c.refs t (HRM.out.mod0 hmw2) HRI.out (by omega)).mono ?_; rintro e w3 ⟨rfl, hm3⟩))
        go_roundw
        case rel => exact ⟨k + 1, by omega, by go_num, by rw [HS.out], (hm.trans_nil hmw2).trans_nil hm3⟩
        case measure => simp [intOf]; omega
      · go_wp2
        go_ret
        exact ⟨ret_int (by rw [List.take_of_length_le (by omega)]), hm⟩

end Go.Proofs.Ytknkifanpppglaa

/- A row of an owned slice is written in part. -/
namespace Go.Proofs.Ytknkifanpppglaa
open Go.RowKit

theorem splice_mid {α : Type} (A e B cs : List α) (j : Nat) (h : j + cs.length ≤ e.length) : splice (A ++ (e ++ B)) (A.length + j) cs = A ++ (splice e j cs ++ B) := by
  unfold splice
  have h1 : (A ++ (e ++ B)).take (A.length + j) = A ++ e.take j := by
    rw [List.take_append, List.take_of_length_le (by omega), Nat.add_sub_cancel_left, List.take_append_of_le_length (by omega)]
  have h2 : (A ++ (e ++ B)).drop (A.length + j + cs.length) = e.drop (j + cs.length) ++ B := by
    rw [List.drop_append, List.drop_of_length_le (by omega), List.nil_append, show A.length + j + cs.length - A.length = j + cs.length by omega, List.drop_append_of_le_length h]
  rw [h1, h2]
  simp

theorem splice_one {α : Type} (cur : List α) (off : Nat) (u : α) (h : off < cur.length) : splice cur off [u] = cur.set off u := by
  simp only [splice, List.length_singleton, List.singleton_append]
  rw [List.set_eq_take_append_cons_drop, if_pos h]

theorem flatten_parts {es : List (List Value)} {k : Nat} {e : List Value} (h : es[k]? = some e) : es.flatten = (es.take k).flatten ++ (e ++ (es.drop (k + 1)).flatten) := by
  have hk := List.getElem?_eq_some_iff.1 h
  have h1 : es = es.take k ++ e :: es.drop (k + 1) := by
    rw [← hk.2, ← List.drop_eq_getElem_cons hk.1, List.take_append_drop]
  have h2 := congrArg List.flatten h1
  rw [List.flatten_append, List.flatten_cons] at h2
  exact h2

/-- the block of an owned slice -/
theorem Own.block {w : World} {E sz : Nat} {b n cap : Nat} {es : List (List Value)} (h : Own w E sz (.slice (some ⟨b, 0, none⟩) n cap) es) :
    ∃ cur : List Value, w.heap[b]? = some (.cells cur.toArray E (0, 0)) ∧ n = es.length ∧ n ≤ cap ∧ cur.length = cap * sz ∧ cur.take (n * sz) = es.flatten := by
  rcases h.shape with ⟨h1, _⟩ | ⟨b', cap', cur, h1, h2, h3, h4, h5, h6, h7⟩
  · cases h1
  · cases h1
    exact ⟨cur.toList, by simpa using h5, rfl, h3, by simpa using h6, h7⟩

/-- part of row k is written -/
theorem Own.write {w w' : World} {E sz : Nat} {b n cap : Nat} {es : List (List Value)} (h : Own w E sz (.slice (some ⟨b, 0, none⟩) n cap) es) {cur : List Value} (hcur : w.heap[b]? = some (.cells cur.toArray E (0, 0)))
    {k j : Nat} {e cs : List Value} (hk : es[k]? = some e) (hj : j + cs.length ≤ sz) (hw : w'.heap[b]? = some (.cells (splice cur (k * sz + j) cs).toArray E (0, 0))) :
    Own w' E sz (.slice (some ⟨b, 0, none⟩) n cap) (es.set k (splice e j cs)) := by
  obtain ⟨cur', hb, hn, hcap, hlen, htake⟩ := h.block
  rw [hcur] at hb
  have : cur = cur' := by simpa using hb
  subst this
  have hke := List.getElem?_eq_some_iff.1 hk
  have hk1 : k < es.length := hke.1
  have he : e.length = sz := h.1 e (List.mem_of_getElem? hk)
  have hmax : cap ≤ maxLen := by
    rcases h.shape with ⟨h1, _⟩ | ⟨b', cap', cur', h1, h2, h3, h4, _⟩
    · cases h1
    · cases h1; exact h4
  have hle : e.length = (splice e j cs).length := (length_splice e j cs (by omega)).symm
  have hall : ∀ x ∈ es.set k (splice e j cs), x.length = sz := by
    intro x hx
    rcases List.mem_or_eq_of_mem_set hx with hx | hx
    · exact h.1 x hx
    · rw [hx, ← hle, he]
  have hp := flatten_parts hk
  have hA : ((es.take k).flatten).length = k * sz := by
    rw [flatten_length (fun x hx => h.1 x (List.mem_of_mem_take hx)), List.length_take, Nat.min_eq_left (by omega)]
  have hcur2 : cur = (es.take k).flatten ++ (e ++ ((es.drop (k + 1)).flatten ++ cur.drop (n * sz))) := by
    conv => lhs; rw [← List.take_append_drop (n * sz) cur, htake, hp]
    simp
  have hsp : splice cur (k * sz + j) cs = (es.take k).flatten ++ (splice e j cs ++ ((es.drop (k + 1)).flatten ++ cur.drop (n * sz))) := by
    conv => lhs; rw [hcur2, ← hA]
    exact splice_mid _ _ _ _ _ (by omega)
  have hset : (es.set k (splice e j cs))[k]? = some (splice e j cs) := by simp [hke.1]
  have hf2 : (es.set k (splice e j cs)).flatten = (es.take k).flatten ++ (splice e j cs ++ (es.drop (k + 1)).flatten) := by
    rw [flatten_parts hset, List.take_set_of_le (Nat.le_refl _), List.drop_set_of_lt (by omega)]
  have hfl := flatten_length hall
  rw [List.length_set] at hfl
  refine ⟨hall, ?_, .inr ⟨b, cap, _, by rw [List.length_set, hn], Nat.zero_le _, hw, by rw [List.length_set, ← hn]; exact hcap, hmax, ?_, ?_⟩⟩
  · rw [List.length_set]; exact hfl
  · have : k * sz + sz ≤ cur.length := by
      have h1 : (k + 1) * sz ≤ cap * sz := Nat.mul_le_mul_right _ (by omega)
      rw [Nat.add_mul] at h1
      omega
    simp [length_splice cur (k * sz + j) cs (by omega), hlen]
  · rw [List.length_set]
    show (splice cur (k * sz + j) cs).take (es.length * sz) = _
    rw [hf2] at hfl
    rw [hsp, hf2]
    have e2 : (es.take k).flatten ++ (splice e j cs ++ ((es.drop (k + 1)).flatten ++ cur.drop (n * sz))) = ((es.take k).flatten ++ (splice e j cs ++ (es.drop (k + 1)).flatten)) ++ cur.drop (n * sz) := by simp
    rw [e2]
    exact List.take_left' hfl

theorem Chunks.write {w w' : World} {b n cap : Nat} {cs : List (Ck × Value)} (h : Chunks w (.slice (some ⟨b, 0, none⟩) n cap) cs) {S : List Nat} (hm : Mod S w w') (hS : NoRefs w S) {k : Nat} {c' : Ck} {rv' : Value}
    (ho : Own w' 45 23 (.slice (some ⟨b, 0, none⟩) n cap) ((cs.map fun p => p.1.cells p.2).set k (c'.cells rv'))) (hr : Refs w' rv' c'.refs) :
    Chunks w' (.slice (some ⟨b, 0, none⟩) n cap) (cs.set k (c', rv')) := by
  refine ⟨by rw [List.map_set]; exact ho, fun p hp => ?_⟩
  rcases List.mem_or_eq_of_mem_set hp with hp | rfl
  · exact (h.2 p hp).mod hm hS
  · exact hr

theorem cksOf_set (cs : List (Ck × Value)) (k : Nat) (p : Ck × Value) : cksOf (cs.set k p) = (cksOf cs).set k p.1 := by
  simp [cksOf, List.map_set]

theorem Ck.splicePos {c : Ck} (h : c.dig.length = 16) (rv : Value) (u : U3) : splice (c.cells rv) 18 u.cells = ({ c with pos := u } : Ck).cells rv := by
  obtain ⟨id, dig, print, pos, lost, refs⟩ := c
  simp only at h
  match dig, h with
  | [a0, a1, a2, a3, a4, a5, a6, a7, a8, a9, a10, a11, a12, a13, a14, a15], _ => rfl

theorem Ck.spliceLost {c : Ck} (h : c.dig.length = 16) (rv : Value) (x : Bool) : splice (c.cells rv) 21 [.bool x] = ({ c with lost := x } : Ck).cells rv := by
  obtain ⟨id, dig, print, pos, lost, refs⟩ := c
  simp only at h
  match dig, h with
  | [a0, a1, a2, a3, a4, a5, a6, a7, a8, a9, a10, a11, a12, a13, a14, a15], _ => rfl

theorem Ck.spliceRefs {c : Ck} (h : c.dig.length = 16) (rv rv' : Value) (r : List (Int × Int)) : splice (c.cells rv) 22 [rv'] = ({ c with refs := r } : Ck).cells rv' := by
  obtain ⟨id, dig, print, pos, lost, refs⟩ := c
  simp only at h
  match dig, h with
  | [a0, a1, a2, a3, a4, a5, a6, a7, a8, a9, a10, a11, a12, a13, a14, a15], _ => rfl

def foot (tb mb : Nat) (lv : Value) : List Nat := tb :: mb :: lv.ownBlock.toList

theorem Tab.parts {w : World} {tb mb : Nat} {lv : Value} {l : List Ck} (h : Tab w tb mb lv l) : tb ≠ mb ∧ (∀ b, lv.ownBlock = some b → b ≠ tb ∧ b ≠ mb) ∧ NoRefs w (foot tb mb lv) ∧ tb < w.heap.size ∧ mb < w.heap.size ∧ (∀ b, lv.ownBlock = some b → b < w.heap.size) := by
  obtain ⟨cs, M, a1, a2, a3, ⟨es, clock, a4, _⟩, _⟩ := h
  have hl : ∀ b, lv.ownBlock = some b → ∃ cur, w.heap[b]? = some (.cells cur 45 (0, 0)) := by
    intro b hb
    rcases a2.1.shape with ⟨h1, _⟩ | ⟨b', cap', cur', h1, h2, h3, h4, h5, _⟩
    · rw [h1] at hb; simp [Value.ownBlock] at hb
    · rw [h1] at hb; simp [Value.ownBlock] at hb; subst hb; exact ⟨_, h5⟩
  refine ⟨(fun e => by rw [e, a4] at a1; cases a1), fun b hb => ?_, fun b hb cur fr hh => ?_, lt_of_heap a1, lt_of_heap a4, fun b hb => ?_⟩
  · obtain ⟨cur, hc⟩ := hl b hb
    exact ⟨fun e => by (rw [e, a1] at hc; cases hc), fun e => by (rw [e, a4] at hc; cases hc)⟩
  · simp only [foot, List.mem_cons, Option.mem_toList] at hb
    rcases hb with rfl | rfl | hb
    · rw [a1] at hh; cases hh
    · rw [a4] at hh; cases hh
    · obtain ⟨cur', hc⟩ := hl b hb
      rw [hc] at hh; cases hh
  · obtain ⟨cur, hc⟩ := hl b hb
    exact lt_of_heap hc

/-- what a method that changes the table leaves -/
def TabPost (tb mb : Nat) (lv : Value) (l' : List Ck) (v : Value) (w : World) (e : Ending) (w' : World) : Prop :=
  ∃ lv', e = .returned v ∧ Tab w' tb mb lv' l' ∧ Mod (foot tb mb lv) w w' ∧ (lv'.ownBlock = lv.ownBlock ∨ ∃ g, lv'.ownBlock = some g ∧ w.heap.size ≤ g)

end Go.Proofs.Ytknkifanpppglaa

/- Walks: leave, Lose, Move. -/
namespace Go.Proofs.Ytknkifanpppglaa
open Go.RowKit

def LeavePost (M : List (U3 × Int)) (mb : Nat) (c : Ck) (w : World) (e : Ending) (w' : World) : Prop :=
  e = .returned (.tuple #[]) ∧ MapIs w' mb (if c.lost then M else mdel M c.pos) ∧ Mod [mb] w w'

set_option maxRecDepth 100000 in
set_option maxHeartbeats 1000000 in
theorem leave_any (w : World) (tb mb b k : Nat) (c : Ck) (rv : Value) (M : List (U3 × Int)) (c1 : w.cell? ⟨tb, 1, none⟩ = some (.map (some mb))) (hrow : Row w b (k * 23) (c.cells rv)) (hd : c.dig.length = 16) (hM : MapIs w mb M) :
    Calls Try.prog 66 #[.pointer (some ⟨tb, 0, none⟩), .pointer (some ⟨b, k * 23, none⟩)] w (LeavePost M mb c w) := by
  have c21 := hrow 21 _ (Ck.c21 hd rv)
  have c18 := hrow 18 _ (Ck.c18 hd rv)
  have c19 := hrow 19 _ (Ck.c19 hd rv)
  have c20 := hrow 20 _ (Ck.c20 hd rv)
  have HM := Lib.hid hM
  clear hrow hM hd
  cases hl : c.lost with
  | true =>
    rw [hl] at c21
    have HL := Lib.hid hl
    clear hl
    go_enter Try.func66, Try.ntmps66
    go_wp2
    go_end0
    exact ⟨rfl, by rw [HL.out]; exact HM.out, Mod.refl _ _⟩
  | false =>
    rw [hl] at c21
    have HL := Lib.hid hl
    clear hl
    go_enter Try.func66, Try.ntmps66
    go_wp2_with fail
    go_still_tail 8, (by kernel_rfl)
    go_wp2_with (refine wpList_delete_unit rfl (.tmp 12) (.tmp 16) rfl mb c.pos M rfl rfl (HM.out.mod ((Mod.refl [] w).drew) (by simp)) ?_; intro w2 hM2 hm2)
    go_end0
    exact ⟨rfl, by rw [HL.out]; exact hM2, ((Mod.refl [mb] w).drew).trans hm2 (by simp)⟩

end Go.Proofs.Ytknkifanpppglaa

/- The operations keep the table's invariant, and the map of units stays in step. Plain lists. -/
namespace Go.Proofs.Ytknkifanpppglaa

theorem get_set {l : List Ck} {k : Nat} {c c' : Ck} (hk : l[k]? = some c) (j : Nat) : (l.set k c')[j]? = if j = k then some c' else l[j]? := by
  have hlt := (List.getElem?_eq_some_iff.1 hk).1
  rw [List.getElem?_set]
  by_cases h : k = j
  · subst h; simp [hlt]
  · rw [if_neg h, if_neg (fun e => h e.symm)]

theorem inv_at {l : List Ck} : Inv l ↔ (∀ (i j : Nat) (a b : Ck), i < j → l[i]? = some a → l[j]? = some b → a.id < b.id) ∧ (∀ (j : Nat) (c : Ck), l[j]? = some c → CkOk c) ∧ (∀ (i j : Nat) (a b : Ck), i ≠ j → l[i]? = some a → l[j]? = some b → a.lost = false → b.lost = false → a.pos ≠ b.pos) := by
  constructor
  · intro h
    refine ⟨fun i j a b hij ha hb => ids_lt h ha hb hij, fun j c hc => h.each c (List.mem_of_getElem? hc), fun i j a b hij ha hb h1 h2 e => ?_⟩
    have e1 := List.getElem?_eq_some_iff.1 ha
    have e2 := List.getElem?_eq_some_iff.1 hb
    rcases Nat.lt_or_gt_of_ne hij with h3 | h3
    · have := List.pairwise_iff_getElem.1 h.uniq i j e1.1 e2.1 h3
      rw [e1.2, e2.2] at this
      exact this h1 h2 e
    · have := List.pairwise_iff_getElem.1 h.uniq j i e2.1 e1.1 h3
      rw [e1.2, e2.2] at this
      exact this h2 h1 e.symm
  · rintro ⟨h1, h2, h3⟩
    refine ⟨List.pairwise_iff_getElem.2 fun i j hi hj hij => h1 i j _ _ hij (List.getElem?_eq_getElem hi) (List.getElem?_eq_getElem hj), fun c hc => ?_, List.pairwise_iff_getElem.2 fun i j hi hj hij => h3 i j _ _ (by omega) (List.getElem?_eq_getElem hi) (List.getElem?_eq_getElem hj)⟩
    obtain ⟨j, hj, rfl⟩ := List.getElem_of_mem hc
    exact h2 j _ (List.getElem?_eq_getElem hj)

theorem inv_set {l : List Ck} (h : Inv l) {k : Nat} {c c' : Ck} (hk : l[k]? = some c) (hid : c'.id = c.id) (hok : CkOk c')
    (hu : c'.lost = false → ∀ (j : Nat) (d : Ck), j ≠ k → l[j]? = some d → d.lost = false → d.pos ≠ c'.pos) : Inv (l.set k c') := by
  obtain ⟨h1, h2, h3⟩ := inv_at.1 h
  refine inv_at.2 ⟨fun i j a b hij ha hb => ?_, fun j d hd => ?_, fun i j a b hij ha hb e1 e2 => ?_⟩
  · rw [get_set hk] at ha hb
    split at ha <;> split at hb
    · omega
    · cases ha; rename_i e _; subst e; rw [hid]; exact h1 _ _ _ _ hij hk hb
    · cases hb; rename_i e; subst e; rw [hid]; exact h1 _ _ _ _ hij ha hk
    · exact h1 _ _ _ _ hij ha hb
  · rw [get_set hk] at hd
    split at hd
    · cases hd; exact hok
    · exact h2 _ _ hd
  · rw [get_set hk] at ha hb
    split at ha <;> split at hb
    · omega
    · cases ha; rename_i hne; exact fun e => hu e1 j b hne hb e2 e.symm
    · cases hb; rename_i hne _; exact hu e2 i a hne ha e1
    · exact h3 _ _ _ _ hij ha hb e1 e2

theorem atU_iff {l : List Ck} (h : Inv l) {u : U3} {i : Int} : atU l u = some i ↔ ∃ (j : Nat) (c : Ck), l[j]? = some c ∧ c.lost = false ∧ c.pos = u ∧ c.id = i := by
  unfold atU
  rw [Option.map_eq_some_iff]
  constructor
  · rintro ⟨c, hc, rfl⟩
    have hm := List.mem_of_find?_eq_some hc
    have hp := List.find?_some hc
    obtain ⟨j, hj, rfl⟩ := List.getElem_of_mem hm
    simp at hp
    exact ⟨j, _, List.getElem?_eq_getElem hj, hp.1, hp.2, rfl⟩
  · rintro ⟨j, c, hj, h1, h2, rfl⟩
    cases hf : l.find? (fun c => !c.lost && c.pos == u) with
    | none =>
      have := List.find?_eq_none.1 hf c (List.mem_of_getElem? hj)
      simp [h1, h2] at this
    | some d =>
      have hm := List.mem_of_find?_eq_some hf
      have hp := List.find?_some hf
      obtain ⟨i, hi, rfl⟩ := List.getElem_of_mem hm
      simp at hp
      refine ⟨_, rfl, ?_⟩
      by_cases e : i = j
      · subst e; rw [List.getElem?_eq_getElem hi] at hj; cases hj; rfl
      · exact absurd (hp.2.trans h2.symm) ((inv_at.1 h).2.2 i j _ _ e (List.getElem?_eq_getElem hi) hj hp.1 h1)

def Agree (M : List (U3 × Int)) (l : List Ck) : Prop := ∀ u, mget M u = atU l u

/-- the map after leave -/
def mleave (M : List (U3 × Int)) (c : Ck) : List (U3 × Int) := if c.lost then M else mdel M c.pos

theorem opt_ext {a b : Option Int} (h : ∀ i, a = some i ↔ b = some i) : a = b := by
  cases a with
  | none =>
    cases b with
    | none => rfl
    | some y => exact absurd ((h y).2 rfl) (by simp)
  | some x => exact ((h x).1 rfl).symm

theorem mget_leave {M : List (U3 × Int)} {l : List Ck} (hn : (M.map (·.1)).Nodup) (ha : Agree M l) (h : Inv l) {k : Nat} {c : Ck} (hk : l[k]? = some c) (u : U3) (i : Int) :
    mget (mleave M c) u = some i ↔ ∃ (j : Nat) (d : Ck), j ≠ k ∧ l[j]? = some d ∧ d.lost = false ∧ d.pos = u ∧ d.id = i := by
  have hu := (inv_at.1 h).2.2
  unfold mleave
  cases hl : c.lost with
  | true =>
    rw [if_pos rfl, ha u, atU_iff h]
    constructor
    · rintro ⟨j, d, h1, h2, h3⟩
      exact ⟨j, d, (fun e => by subst e; rw [h1] at hk; cases hk; rw [hl] at h2; exact absurd h2 (by simp)), h1, h2, h3⟩
    · rintro ⟨j, d, _, h1, h2, h3⟩
      exact ⟨j, d, h1, h2, h3⟩
  | false =>
    rw [if_neg (by simp), mget_del hn]
    constructor
    · intro h1
      split at h1
      · cases h1
      · rename_i hne
        rw [ha u, atU_iff h] at h1
        obtain ⟨j, d, h2, h3, h4, h5⟩ := h1
        exact ⟨j, d, (fun e => by subst e; rw [h2] at hk; cases hk; exact hne h4.symm), h2, h3, h4, h5⟩
    · rintro ⟨j, d, hne, h1, h2, h3, h4⟩
      rw [if_neg (fun e => hu j k d c hne h1 hk h2 hl (h3.trans e)), ha u, atU_iff h]
      exact ⟨j, d, h1, h2, h3, h4⟩

theorem agree_lose {M : List (U3 × Int)} {l : List Ck} (hn : (M.map (·.1)).Nodup) (ha : Agree M l) (h : Inv l) {k : Nat} {c : Ck} (hk : l[k]? = some c) (hi : Inv (l.set k { c with pos := zeroU, lost := true })) :
    Agree (mleave M c) (l.set k { c with pos := zeroU, lost := true }) := by
  intro u
  apply opt_ext
  intro i
  rw [mget_leave hn ha h hk, atU_iff hi]
  constructor
  · rintro ⟨j, d, hne, h1, h2⟩
    exact ⟨j, d, by rw [get_set hk, if_neg hne]; exact h1, h2⟩
  · rintro ⟨j, d, h1, h2, h3⟩
    rw [get_set hk] at h1
    split at h1
    · cases h1; simp at h2
    · exact ⟨j, d, by assumption, h1, h2, h3⟩

theorem agree_move {M : List (U3 × Int)} {l : List Ck} (hn : (M.map (·.1)).Nodup) (ha : Agree M l) (h : Inv l) {k : Nat} {c : Ck} {v : U3} (hk : l[k]? = some c) (hi : Inv (l.set k { c with pos := v, lost := false })) :
    Agree (mset (mleave M c) v c.id) (l.set k { c with pos := v, lost := false }) := by
  intro u
  apply opt_ext
  intro i
  rw [mget_set, atU_iff hi]
  by_cases huv : u = v
  · subst huv
    rw [if_pos rfl]
    constructor
    · rintro e; cases e; exact ⟨k, ({ c with pos := u, lost := false } : Ck), by rw [get_set hk, if_pos rfl], rfl, rfl, rfl⟩
    · rintro ⟨j, d, h1, h2, h3, h4⟩
      by_cases e : j = k
      · subst e; rw [get_set hk, if_pos rfl] at h1; cases h1; rw [← h4]
      · have := (inv_at.1 hi).2.2 j k d _ e h1 (by rw [get_set hk, if_pos rfl]) h2 rfl
        exact absurd h3 this
  · rw [if_neg huv, mget_leave hn ha h hk]
    constructor
    · rintro ⟨j, d, hne, h1, h2⟩
      exact ⟨j, d, by rw [get_set hk, if_neg hne]; exact h1, h2⟩
    · rintro ⟨j, d, h1, h2, h3, h4⟩
      rw [get_set hk] at h1
      split at h1
      · cases h1; exact absurd h3.symm huv
      · exact ⟨j, d, by assumption, h1, h2, h3, h4⟩

/-- a chunk's references are changed -/
theorem agree_refs {M : List (U3 × Int)} {l : List Ck} (ha : Agree M l) (h : Inv l) {k : Nat} {c : Ck} {r : List (Int × Int)} (hk : l[k]? = some c) (hi : Inv (l.set k { c with refs := r })) : Agree M (l.set k { c with refs := r }) := by
  intro u
  rw [ha u]
  apply opt_ext
  intro i
  rw [atU_iff h, atU_iff hi]
  constructor
  · rintro ⟨j, d, h1, h2⟩
    by_cases e : j = k
    · subst e; rw [hk] at h1; cases h1; exact ⟨j, ({ c with refs := r } : Ck), by rw [get_set hk, if_pos rfl], h2⟩
    · exact ⟨j, d, by rw [get_set hk, if_neg e]; exact h1, h2⟩
  · rintro ⟨j, d, h1, h2⟩
    rw [get_set hk] at h1
    split at h1
    · cases h1; exact ⟨k, c, hk, h2⟩
    · exact ⟨j, d, h1, h2⟩

theorem inv_lose {l : List Ck} (h : Inv l) {k : Nat} {c : Ck} (hk : l[k]? = some c) : Inv (l.set k { c with pos := zeroU, lost := true }) := by
  have hc := h.each c (List.mem_of_getElem? hk)
  exact inv_set h hk rfl ⟨hc.id1, hc.id2, hc.dig, hc.refs, hc.refsNe, hc.ref1, hc.tot, (fun e => by simp at e), fun _ => rfl⟩ (fun e => by simp at e)

theorem inv_move {l : List Ck} (h : Inv l) {k : Nat} {c : Ck} {u : U3} (hk : l[k]? = some c) (hok : u.ok = true) (hat : ∀ i, atU l u = some i → i = c.id) : Inv (l.set k { c with pos := u, lost := false }) := by
  have hc := h.each c (List.mem_of_getElem? hk)
  refine inv_set h hk rfl ⟨hc.id1, hc.id2, hc.dig, hc.refs, hc.refsNe, hc.ref1, hc.tot, fun _ => hok, (fun e => by simp at e)⟩ (fun _ j d hne hj hd e => ?_)
  have h1 : atU l u = some d.id := (atU_iff h).2 ⟨j, d, hj, hd, e, rfl⟩
  exact hne (ids_inj h hj hk (hat _ h1))

end Go.Proofs.Ytknkifanpppglaa

/- Scripts of operations on the table as a list: the invariant, and what each operation does to a tenant's count. Plain lists. -/
namespace Go.Proofs.Ytknkifanpppglaa

def opsL (l : List Ck) (s : List Opn) : List Ck := s.foldl (fun l o => (opL l o).1) l

theorem opsL_snoc (l : List Ck) (s : List Opn) (o : Opn) : opsL l (s ++ [o]) = (opL (opsL l s) o).1 := by simp [opsL]
theorem opsL_take (l : List Ck) (s : List Opn) (k : Nat) (o : Opn) (h : s[k]? = some o) : opsL l (s.take (k + 1)) = (opL (opsL l (s.take k)) o).1 := by
  have e := List.getElem?_eq_some_iff.1 h
  rw [List.take_succ_eq_append_getElem e.1, e.2, opsL_snoc]

theorem countL_cons (c : Ck) (l : List Ck) (t : Int) : countL (c :: l) t = heldL c.refs t + countL l t := by simp [countL]
theorem countL_append (a b : List Ck) (t : Int) : countL (a ++ b) t = countL a t + countL b t := by
  unfold countL; rw [List.map_append, List.sum_append_int]

theorem countL_at {l : List Ck} {k : Nat} {c : Ck} (h : l[k]? = some c) (t : Int) : countL l t = countL (l.take k) t + (heldL c.refs t + countL (l.drop (k + 1)) t) := by
  have e := List.getElem?_eq_some_iff.1 h
  conv => lhs; rw [← List.take_append_drop k l, List.drop_eq_getElem_cons e.1, e.2]
  rw [countL_append, countL_cons]

theorem countL_set {l : List Ck} {k : Nat} {c c' : Ck} (h : l[k]? = some c) (t : Int) : countL (l.set k c') t = countL l t - heldL c.refs t + heldL c'.refs t := by
  have e := List.getElem?_eq_some_iff.1 h
  have e2 : (l.set k c')[k]? = some c' := by rw [List.getElem?_set]; simp [e.1]
  rw [countL_at e2 t, countL_at h t, List.take_set_of_le (Nat.le_refl k), List.drop_set_of_lt (by omega)]
  omega

theorem countL_erase {l : List Ck} {k : Nat} {c : Ck} (h : l[k]? = some c) (t : Int) : countL (l.eraseIdx k) t = countL l t - heldL c.refs t := by
  rw [countL_at h t, List.eraseIdx_eq_take_drop_succ, countL_append]
  omega

theorem countL_out {l : List Ck} (h : ∀ c ∈ l, CkOk c) {t : Int} (ht : t < 0 ∨ 16 ≤ t) : countL l t = 0 := by
  induction l with
  | nil => rfl
  | cons c l ih =>
    rw [countL_cons, ih (fun x hx => h x (by simp [hx]))]
    have hc := h c (by simp)
    have : heldL c.refs t = 0 := by
      unfold heldL
      rw [List.find?_eq_none.2]
      · rfl
      · intro x hx
        have := hc.ref1 x hx
        simp; omega
    omega

/-- what an operation without an error adds to the count of its tenant -/
def gainO (o : Opn) : Int := if o.kind = 1 then 1 else if o.kind = 2 then o.n else if o.kind = 3 then -o.n else 0

theorem argsBad_no {t n : Int} (h : argsBad t n = false) : 0 ≤ t ∧ t < 16 ∧ 1 ≤ n ∧ n ≤ most := by
  unfold argsBad tenB at h
  simp at h
  omega

theorem count_add (l : List Ck) (d : List Int) (p : Int) (u : U3) (t t' : Int) :
    ((addL l d p u t).2.2 = 0 → 0 ≤ t ∧ t < 16 ∧ countL (addL l d p u t).1 t' = countL l t' + if t' = t then 1 else 0) ∧ ((addL l d p u t).2.2 ≠ 0 → (addL l d p u t).1 = l) := by
  unfold addL
  split
  · simp
  · rename_i h1
    split
    · simp
    · split
      · simp
      · simp only [ne_eq, not_true_eq_false, false_implies, and_true, true_implies]
        have ht : tenB t = true := by revert h1; cases tenB t <;> simp
        unfold tenB at ht
        simp at ht
        refine ⟨ht.1, ht.2, ?_⟩
        rw [countL_append, countL_cons]
        conv => rhs; rw [← List.take_append_drop (slot l) l]
        rw [countL_append]
        have : heldL [(t, 1)] t' = if t' = t then 1 else 0 := by
          unfold heldL
          by_cases h : t' = t
          · subst h; simp
          · rw [if_neg h]; simp [Ne.symm h]
        rw [this]
        omega

theorem count_refer {l : List Ck} (h : Inv l) (id t n t' : Int) :
    ((referL l id t n).2 = 0 → 0 ≤ t ∧ t < 16 ∧ countL (referL l id t n).1 t' = countL l t' + if t' = t then n else 0) ∧ ((referL l id t n).2 ≠ 0 → (referL l id t n).1 = l) := by
  unfold referL
  split
  · simp
  · split
    · simp
    · rename_i hb
      split
      · simp
      · rename_i c hc
        split
        · simp
        · simp only [ne_eq, not_true_eq_false, false_implies, and_true, true_implies]
          have ha := argsBad_no (by simpa using hb)
          have hok := h.each c (List.mem_of_getElem? hc)
          have hh := held_bounds (fun x hx => (hok.ref1 x hx).2.2) t
          refine ⟨ha.1, ha.2.1, ?_⟩
          rw [countL_set hc, held_with _ _ _ (by omega)]
          split
          · rename_i e; subst e; omega
          · omega

theorem withL_nil {r : List (Int × Int)} {t n : Int} (hn : 0 ≤ n) (h : withL r t n = []) (t' : Int) : (if t' = t then n else heldL r t') = 0 := by
  rw [← held_with t n t' hn, h]; rfl

theorem count_unrefer {l : List Ck} (id t n t' : Int) :
    ((unreferL l id t n).2.2 = 0 → 0 ≤ t ∧ t < 16 ∧ countL (unreferL l id t n).1 t' = countL l t' - if t' = t then n else 0) ∧ ((unreferL l id t n).2.2 ≠ 0 → (unreferL l id t n).1 = l) := by
  unfold unreferL
  split
  · simp
  · split
    · simp
    · rename_i hb
      split
      · simp
      · rename_i c hc
        have ha := argsBad_no (by simpa using hb)
        split
        · simp
        · rename_i hn
          split
          · simp only [ne_eq, not_true_eq_false, false_implies, and_true, true_implies]
            refine ⟨ha.1, ha.2.1, ?_⟩
            rw [countL_set hc, held_with _ _ _ (by omega)]
            split
            · rename_i e; subst e; omega
            · omega
          · rename_i hne
            simp only [ne_eq, not_true_eq_false, false_implies, and_true, true_implies]
            refine ⟨ha.1, ha.2.1, ?_⟩
            have he := withL_nil (r := c.refs) (t := t) (n := heldL c.refs t - n) (by omega) (by simpa using hne) t'
            rw [countL_erase hc]
            split at he
            · rename_i e; subst e; rw [if_pos rfl]; omega
            · rename_i e; rw [if_neg e]; omega

theorem count_move {l : List Ck} (id : Int) (u : U3) (t' : Int) : countL (moveL l id u).1 t' = countL l t' := by
  unfold moveL
  split
  · rfl
  · split
    · rfl
    · split
      · rfl
      · split
        · rfl
        · rename_i c hc
          rw [countL_set hc]; simp

theorem count_lose {l : List Ck} (id : Int) (t' : Int) : countL (loseL l id).1 t' = countL l t' := by
  unfold loseL
  split
  · rfl
  · split
    · rfl
    · rename_i c hc
      rw [countL_set hc]; simp

/-- the count of a tenant after an operation -/
theorem count_op {l : List Ck} (h : Inv l) (o : Opn) (t' : Int) :
    countL (opL l o).1 t' = countL l t' + if (opL l o).2.2 = 0 ∧ t' = o.tenant then gainO o else 0 := by
  unfold opL gainO
  split
  · have := count_add l (digOf o.d) o.print o.pos o.tenant t'
    by_cases e : (addL l (digOf o.d) o.print o.pos o.tenant).2.2 = 0
    · rw [(this.1 e).2.2]; simp [e]
    · rw [this.2 e]; simp [e]
  · split
    · have := count_refer h o.id o.tenant o.n t'
      by_cases e : (referL l o.id o.tenant o.n).2 = 0
      · rw [(this.1 e).2.2]; simp [e]
      · rw [this.2 e]; simp [e]
    · split
      · have := count_unrefer (l := l) o.id o.tenant o.n t'
        by_cases e : (unreferL l o.id o.tenant o.n).2.2 = 0
        · simp only [(this.1 e).2.2, e, true_and]
          split <;> omega
        · simp only [this.2 e, e, false_and, if_false]; omega
      · split
        · simp only [count_move]; split <;> omega
        · split
          · simp only [count_lose]; split <;> omega
          · simp

/-- the tenant of an operation that changes a count is a tenant -/
theorem op_tenant {l : List Ck} (h : Inv l) (o : Opn) (he : (opL l o).2.2 = 0) (hk : o.kind = 1 ∨ o.kind = 2 ∨ o.kind = 3) : 0 ≤ o.tenant ∧ o.tenant < 16 := by
  unfold opL at he
  rcases hk with hk | hk | hk
  · rw [if_pos hk] at he
    have := (count_add l (digOf o.d) o.print o.pos o.tenant 0).1 he
    exact ⟨this.1, this.2.1⟩
  · rw [if_neg (by omega), if_pos hk] at he
    have := (count_refer h o.id o.tenant o.n 0).1 he
    exact ⟨this.1, this.2.1⟩
  · rw [if_neg (by omega), if_neg (by omega), if_pos hk] at he
    have := (count_unrefer (l := l) o.id o.tenant o.n 0).1 he
    exact ⟨this.1, this.2.1⟩

end Go.Proofs.Ytknkifanpppglaa

/- The encoding of numbers and of tables as lists of bytes. Plain lists. -/
namespace Go.Proofs.Ytknkifanpppglaa

/-- how many bytes a number takes (at most k) -/
def blen (n : Int) : Nat → Nat
  | 0 => 0
  | k + 1 => if n / 256 ^ k > 0 then k + 1 else blen n k
/-- the first j of k bytes -/
def beB (n : Int) (k j : Nat) : List Int := (List.range j).map (fun t => n / 256 ^ (k - 1 - t) % 256)
def intB (n : Int) : List Int := (128 + (blen n 8 : Int)) :: beB n (blen n 8) (blen n 8)

theorem blen_le (n : Int) : ∀ k, blen n k ≤ k
  | 0 => Nat.le_refl _
  | k + 1 => by unfold blen; split; omega; have := blen_le n k; omega
theorem blen_of {n : Int} : ∀ {m k : Nat}, k ≤ m → (∀ j, k ≤ j → j < m → ¬ n / 256 ^ j > 0) → (k = 0 ∨ n / 256 ^ (k - 1) > 0) → blen n m = k
  | 0, k, hk, _, _ => by have : k = 0 := by omega
                         subst this; rfl
  | m + 1, k, hk, h, h2 => by
    unfold blen
    by_cases e : k = m + 1
    · subst e
      rcases h2 with h2 | h2
      · omega
      · rw [if_pos (by simpa using h2)]
    · rw [if_neg (h m (by omega) (by omega))]
      exact blen_of (by omega) (fun j h1 h3 => h j h1 (by omega)) h2
theorem beB_succ (n : Int) (k j : Nat) : beB n k (j + 1) = beB n k j ++ [n / 256 ^ (k - 1 - j) % 256] := by
  simp [beB, List.range_succ]
theorem beB_len (n : Int) (k j : Nat) : (beB n k j).length = j := by simp [beB]
theorem intB_len (n : Int) : (intB n).length ≤ 9 := by have := blen_le n 8; simp [intB, beB_len]; omega
theorem intB_ne (n : Int) : 1 ≤ (intB n).length := by simp [intB]

theorem beB_byte {n : Int} {k j : Nat} : ∀ x ∈ beB n k j, 0 ≤ x ∧ x < 256 := by
  intro x hx
  obtain ⟨t, _, rfl⟩ := List.mem_map.1 hx
  exact ⟨Int.emod_nonneg _ (by decide), Int.emod_lt_of_pos _ (by decide)⟩
theorem intB_byte {n : Int} : ∀ x ∈ intB n, 0 ≤ x ∧ x < 256 := by
  intro x hx
  rcases List.mem_cons.1 hx with rfl | hx
  · have := blen_le n 8; omega
  · exact beB_byte x hx

def refB (r : Int × Int) : List Int := intB r.1 ++ intB r.2
def posB (c : Ck) : List Int := if c.lost then intB 1 else intB 0 ++ (intB c.pos.row ++ (intB c.pos.group ++ intB c.pos.unit))
def ckB (c : Ck) : List Int := intB c.id ++ (c.dig ++ (intB c.print ++ (posB c ++ (intB c.refs.length ++ (c.refs.map refB).flatten))))
def encB (l : List Ck) : List Int := intB l.length ++ (l.map ckB).flatten

end Go.Proofs.Ytknkifanpppglaa

/- Walks: Lose. -/
namespace Go.Proofs.Ytknkifanpppglaa
open Go.RowKit

theorem info4 : (Try.prog.info? 4).map (·.size) = some 1 := by kernel_rfl

theorem oneCell_unit (u : U3) : ∀ x ∈ u.cells, x.oneCell' = true := by
  intro x hx
  simp [U3.cells] at hx
  rcases hx with rfl | rfl | rfl <;> rfl

/-- pos and lost of the chunk at k were written -/
theorem chunks_place {w0 w2 w3 w4 : World} {b n cap : Nat} {cs : List (Ck × Value)} (h2 : Chunks w2 (.slice (some ⟨b, 0, none⟩) n cap) cs) {k : Nat} {c : Ck} {rv : Value} (hk : cs[k]? = some (c, rv)) (hd : c.dig.length = 16)
    {cur : List Value} (hcur : w2.heap[b]? = some (.cells cur.toArray 45 (0, 0))) (u : U3) (x : Bool)
    (h3 : w3.heap[b]? = some (.cells (splice cur (k * 23 + 18) u.cells).toArray 45 (0, 0)))
    (h4 : w4.heap[b]? = some (.cells ((splice cur (k * 23 + 18) u.cells).set (k * 23 + 21) (.bool x)).toArray 45 (0, 0)))
    (hm : Mod [b] w2 w4) (_ : w0 = w0) : Chunks w4 (.slice (some ⟨b, 0, none⟩) n cap) (cs.set k ({ c with pos := u, lost := x }, rv)) := by
  obtain ⟨cur', hb, hn, hcap, hlen, _⟩ := h2.1.block
  rw [hcur] at hb
  have : cur = cur' := by simpa using hb
  subst this
  have hkl := (List.getElem?_eq_some_iff.1 hk).1
  have hke : (cs.map fun p => p.1.cells p.2)[k]? = some (c.cells rv) := by simp [hk]
  have hl : k * 23 + 23 ≤ cur.length := by rw [List.length_map] at hn; omega
  have o3 := Own.write h2.1 hcur (k := k) (j := 18) hke (by simp [U3.cells]) h3
  rw [Ck.splicePos hd] at o3
  have hke3 : ((cs.map fun p => p.1.cells p.2).set k (({ c with pos := u } : Ck).cells rv))[k]? = some (({ c with pos := u } : Ck).cells rv) := by simp [hkl]
  have o4 := Own.write o3 h3 (k := k) (j := 21) (cs := [.bool x]) hke3 (by simp) (by rw [splice_one _ _ _ (by rw [length_splice _ _ _ (by simp [U3.cells]; omega)]; omega)]; exact h4)
  rw [Ck.spliceLost (c := { c with pos := u }) hd, List.set_set] at o4
  have hnr : NoRefs w2 [b] := NoRefs.one hcur (by decide)
  exact h2.write hm hnr o4 ((h2.2 (c, rv) (List.mem_of_getElem? hk)).mod hm hnr)

set_option maxRecDepth 100000 in
set_option maxHeartbeats 1000000 in
theorem lose_any (w : World) (tb mb : Nat) (lv : Value) (l : List Ck) (id : Int) (h : Tab w tb mb lv l) :
    Calls Try.prog 34 #[.pointer (some ⟨tb, 0, none⟩), .int .i64 id] w (TabPost tb mb lv (loseL l id).1 (.int .i64 (loseL l id).2) w) := by
  have HT := Lib.hid h
  have hc1 := h.open.2.1
  clear h
  go_enter Try.func34, Try.ntmps34
  go_wp2_with fail
  refine (find_any _ tb mb lv l id HT.out).mono ?_
  rintro e w1 ⟨hm, hf⟩
  rcases hf with ⟨hi, rfl⟩ | ⟨k, b, n, cap, hi, rfl, rfl⟩
  · have e1 : loseL l id = (l, 12) := by simp [loseL, hi]
    have HE := Lib.hid e1
    clear hi e1
    go_wp2
    go_ret
    exact ⟨lv, by rw [HE.out]; rfl, by rw [HE.out]; exact HT.out.mod0 hm, hm.nil, .inl rfl⟩
  · obtain ⟨c, hk, hid, _⟩ := idxOf_some.1 hi
    have e1 : loseL l id = (l.set k { c with pos := zeroU, lost := true }, 0) := by simp [loseL, hi, hk]
    have HE := Lib.hid e1
    have HP := Lib.hid HT.out.parts
    obtain ⟨cs, M, a1, a2, a3, a4, a5, a6⟩ := HT.out.mod0 hm
    subst a3
    obtain ⟨rv, hcs, hrow, _, hd⟩ := a2.at hk
    obtain ⟨cur, hcur, hn, hcap, hlen, _⟩ := a2.1.block
    have hkn : k * 23 + 23 ≤ cur.length := by have := (List.getElem?_eq_some_iff.1 hcs).1; rw [List.length_map] at hn; omega
    have c1 := hm.cell hc1 (by simp)
    have H1 := Lib.hid a1
    have H2 := Lib.hid a2
    have H4 := Lib.hid a4
    have H5 := Lib.hid a5
    have H6 := Lib.hid a6
    have HR := Lib.hid hrow
    have HC := Lib.hid hcs
    have HCur := Lib.hid hcur
    have HD := Lib.hid hd
    have HK := Lib.hid hk
    clear hi hk hid e1 a1 a2 a4 a5 a6 hcs hrow hd hcur hn hcap hlen
    go_wp2_with (first | (go_at_call 66; refine (leave_any w1 tb mb b k c rv M c1 HR.out HD.out H4.out).mono ?_; rintro e w2 ⟨rfl, hM2, hm2⟩; have hcur2 := hm2.heap HCur.out (by have := (HP.out.2.1 b rfl).2; simpa using this); have HCur2 := Lib.hid hcur2; clear hcur2) | (refine wpList_store_at rfl 26 (.tmp 18) (.tmp 16) rfl 3 info26 b (k * 23 + 18) 45 cur zeroU.cells rfl rfl HCur2.out rfl (oneCell_unit _) (by simp [U3.cells]; omega) ?_; intro w3 hh3 hm3; have HH3 := Lib.hid hh3; clear hh3) | (refine wpList_store1 rfl 4 (.tmp 20) (.const (.bool true)) rfl info4 b (k * 23 + 21) 45 (splice cur (k * 23 + 18) zeroU.cells) (.bool true) rfl rfl HH3.out rfl (by rw [length_splice _ _ _ (by simp [U3.cells]; omega)]; omega) ?_; intro w4 hh4 hm4; have HH4 := Lib.hid hh4; clear hh4))
    go_ret
    obtain ⟨p1, p2, p3, p4, p5, p6⟩ := HP.out
    have hbt := p2 b rfl
    have hm24 : Mod [b] w2 w4 := hm3.trans hm4 (by simp)
    have hm14 : Mod [mb, b] w1 w4 := (hm2.mono (by simp)).trans hm24 (by simp)
    have hch2 : Chunks w2 (.slice (some ⟨b, 0, none⟩) n cap) cs := H2.out.mod hm2 (fun x hx cur' fr' hh => by
      simp at hx; subst hx
      obtain ⟨es, cl, hmm, _⟩ := H4.out
      rw [hmm] at hh; cases hh) (by intro x hx; simp [Value.ownBlock] at hx; subst hx; simpa using hbt.2)
    have hch := chunks_place (w0 := w) hch2 HC.out HD.out HCur2.out zeroU true HH3.out HH4.out hm24 rfl
    have hinv := inv_lose H6.out HK.out
    refine ⟨.slice (some ⟨b, 0, none⟩) n cap, by rw [HE.out]; rfl, ⟨_, mleave M c, hm14.heap H1.out (by simp; exact ⟨p1, fun e => hbt.1 e.symm⟩), hch, by rw [HE.out, cksOf_set], MapIs.mod hm24 hM2 (by simpa using fun e => hbt.2 e.symm), ?_, by rw [HE.out]; exact hinv⟩, ?_, .inl rfl⟩
    · rw [HE.out]; exact agree_lose H4.out.nodup H5.out H6.out HK.out hinv
    · exact (hm.nil.trans hm14 (by simp [foot, Value.ownBlock]))

end Go.Proofs.Ytknkifanpppglaa

/- Walks: valid, isTenant. -/
namespace Go.Proofs.Ytknkifanpppglaa
open Go.RowKit

def withinB (n m : Int) : Bool := decide (0 ≤ n) && decide (n < m)

theorem within_any (n m : Int) (w : World) : Calls Try.prog 109 #[.int .i64 n, .int .i64 m] w fun e w' => e = .returned (.bool (withinB n m)) ∧ w = w' := by
  by_cases h : 0 ≤ n
  · go_enter Try.func109, Try.ntmps109
    go_wp2
    go_ret
    exact ⟨by simp [withinB, h], rfl⟩
  · go_enter Try.func109, Try.ntmps109
    go_wp2
    go_ret
    exact ⟨by simp [withinB]; omega, rfl⟩

theorem isTenant_any (n : Int) (w : World) : Calls Try.prog 94 #[.int .i64 n] w fun e w' => e = .returned (.bool (tenB n)) ∧ w = w' := by
  by_cases h : 0 ≤ n
  · go_enter Try.func94, Try.ntmps94
    go_wp2
    go_ret
    exact ⟨by simp [tenB, h], rfl⟩
  · go_enter Try.func94, Try.ntmps94
    go_wp2
    go_ret
    exact ⟨by simp [tenB]; omega, rfl⟩

theorem within_is {n m : Int} {r : Bool} (h : withinB n m = r) (w : World) : Calls Try.prog 109 #[.int .i64 n, .int .i64 m] w fun e w' => e = .returned (.bool r) ∧ w = w' := h ▸ within_any n m w

set_option maxHeartbeats 2000000 in
theorem valid_any (u : U3) (w : World) : Calls Try.prog 67 #[.agg #[.int .i64 u.row, .int .i64 u.group, .int .i64 u.unit]] w fun e w' => e = .returned (.bool u.ok) ∧ Mod [] w w' := by
  have e : u.ok = (withinB u.row 4096 && withinB u.group 64 && withinB u.unit 32) := rfl
  generalize u.ok = r at *
  have HE := Lib.hid e
  clear e
  cases h1 : withinB u.row 4096 with
  | false =>
    have H1 := Lib.hid h1
    clear h1
    go_enter Try.func67, Try.ntmps67
    go_wp2_with (go_at_call 109; refine (within_is H1.out _).mono ?_; rintro e w1 ⟨rfl, rfl⟩)
    go_ret
    exact ⟨by rw [HE.out, H1.out]; rfl, (Mod.refl _ _).alloc _⟩
  | true =>
    have H1 := Lib.hid h1
    clear h1
    cases h2 : withinB u.group 64 with
    | false =>
      have H2 := Lib.hid h2
      clear h2
      go_enter Try.func67, Try.ntmps67
      go_wp2_with fail
      refine (within_is H1.out _).mono ?_
      rintro e w1 ⟨rfl, rfl⟩
      go_wp2_with fail
      refine (within_is H2.out _).mono ?_
      rintro e w1 ⟨rfl, rfl⟩
      go_wp2_with fail
      go_ret
      exact ⟨by rw [HE.out, H1.out, H2.out]; rfl, (Mod.refl _ _).alloc _⟩
    | true =>
      have H2 := Lib.hid h2
      clear h2
      cases h3 : withinB u.unit 32
      all_goals
        have H3 := Lib.hid h3
        clear h3
        go_enter Try.func67, Try.ntmps67
        go_wp2_with fail
        refine (within_is H1.out _).mono ?_
        rintro e w1 ⟨rfl, rfl⟩
        go_wp2_with fail
        refine (within_is H2.out _).mono ?_
        rintro e w1 ⟨rfl, rfl⟩
        go_wp2_with fail
        refine (within_is H3.out _).mono ?_
        rintro e w1 ⟨rfl, rfl⟩
        go_wp2_with fail
        go_ret
        exact ⟨by rw [HE.out, H1.out, H2.out, H3.out]; rfl, (Mod.refl _ _).alloc _⟩

end Go.Proofs.Ytknkifanpppglaa

/- Walks: Move. -/
namespace Go.Proofs.Ytknkifanpppglaa
open Go.RowKit

set_option maxRecDepth 100000 in
set_option maxHeartbeats 2000000 in
theorem move_any (w : World) (tb mb : Nat) (lv : Value) (l : List Ck) (id : Int) (u : U3) (h : Tab w tb mb lv l) :
    Calls Try.prog 35 #[.pointer (some ⟨tb, 0, none⟩), .int .i64 id, .agg #[.int .i64 u.row, .int .i64 u.group, .int .i64 u.unit]] w (TabPost tb mb lv (moveL l id u).1 (.int .i64 (moveL l id u).2) w) := by
  have HT := Lib.hid h
  have hc1 := h.open.2.1
  have htb := Go.block_lt_of_cell hc1
  clear h
  go_enter Try.func35, Try.ntmps35
  go_wp2_with fail
  have hm0 : Mod [] w (w.alloc (.cells #[.int .i64 u.row, .int .i64 u.group, .int .i64 u.unit] 26)) := (Mod.refl _ _).alloc _
  refine (find_any _ tb mb lv l id (HT.out.mod0 hm0)).mono ?_
  rintro e w1 ⟨hm, hf⟩
  have hm1 := hm0.trans_nil hm
  have hrow : Row w1 w.heap.size 0 u.cells := (Row.of_heap (cs := u.cells) (heap_alloc_at w _)).mod hm (by simp)
  have u0 := hrow 0 _ rfl
  have u1 := hrow 1 _ rfl
  have u2 := hrow 2 _ rfl
  have c1 := hm1.cell hc1 (by simp)
  have hlk : ∀ (n : Nat), (Instr.lookup 118 (.map (some mb)) (.agg #[.int .i64 u.row, .int .i64 u.group, .int .i64 u.unit]) true).run Try.prog (w1.drewN n) = .ok (.tuple #[.int .i64 ((atU l u).getD 0), .bool (atU l u).isSome]) (w1.drewN n) :=
    fun n => (HT.out.mod0 (hm1.drewN n)).lookup u
  rcases hf with ⟨hi, rfl⟩ | ⟨k, b, n, cap, hi, rfl, rfl⟩
  · have e1 : moveL l id u = (l, 12) := by simp [moveL, hi]
    have HE := Lib.hid e1
    generalize (atU l u).getD 0 = r0 at *
    generalize (atU l u).isSome = r1 at *
    clear hi e1
    go_wp2
    go_quiet (fail)
    go_wp2
    go_ret
    exact ⟨lv, by rw [HE.out]; rfl, by rw [HE.out]; exact HT.out.mod0 (hm1.drewN _), (hm1.drewN _).nil, .inl rfl⟩
  · obtain ⟨c, hk, hid, _⟩ := idxOf_some.1 hi
    cases hok : u.ok with
    | false =>
      have e1 : moveL l id u = (l, 1) := by simp [moveL, hi, hok]
      have HE := Lib.hid e1
      have HOk := Lib.hid hok
      generalize (atU l u).getD 0 = r0 at *
      generalize (atU l u).isSome = r1 at *
      clear hi e1 hok hk hid
      go_wp2
      go_quiet (fail)
      go_wp2_with (go_at_call 67; refine (valid_any u _).mono ?_; rintro e w2 ⟨rfl, hm2⟩; rw [HOk.out])
      go_ret
      have hm3 := (hm1.drewN nq).trans_nil hm2
      exact ⟨_, by rw [HE.out]; rfl, by rw [HE.out]; exact HT.out.mod0 hm3, hm3.nil, .inl rfl⟩
    | true =>
      have HOk := Lib.hid hok
      have HP := Lib.hid HT.out.parts
      have HK := Lib.hid hk
      have HI := Lib.hid hid
      by_cases hbad : ∃ o, atU l u = some o ∧ o ≠ id
      · obtain ⟨o, ho, hne⟩ := hbad
        have e1 : moveL l id u = (l, 20) := by simp [moveL, hi, hok, ho, hne]
        have HE := Lib.hid e1
        have hb1 : (o != id) = true := by simpa using hne
        have hb2 : (o == id) = false := by simpa using hne
        rw [ho] at hlk
        simp only [Option.getD_some, Option.isSome_some] at hlk
        clear hi e1 hok hk hid ho hne
        go_wp2
        go_quiet (fail)
        go_wp2_with (go_at_call 67; refine (valid_any u _).mono ?_; rintro e w2 ⟨rfl, hm2⟩; rw [HOk.out])
        go_ret
        have hm3 := (hm1.drewN nq).trans_nil hm2
        exact ⟨_, by rw [HE.out]; rfl, by rw [HE.out]; exact HT.out.mod0 hm3, hm3.nil, .inl rfl⟩
      · have hat : ∀ i, atU l u = some i → i = id := fun i hi => Classical.byContradiction fun hne => hbad ⟨i, hi, hne⟩
        have e1 : moveL l id u = (l.set k { c with pos := u, lost := false }, 0) := by
          cases ho : atU l u with
          | none => simp [moveL, hi, hok, hk, ho]
          | some o => simp [moveL, hi, hok, hk, ho, hat o ho]
        have hinv : Inv (l.set k { c with pos := u, lost := false }) := by
          obtain ⟨_, _, _, _, _, _, _, a6⟩ := HT.out
          exact inv_move a6 hk hok (fun i hi => by rw [hid]; exact hat i hi)
        have HE := Lib.hid e1
        have HInv := Lib.hid hinv
        obtain ⟨cs, M, a1, a2, a3, a4, a5, a6⟩ := HT.out.mod0 hm1
        subst a3
        obtain ⟨rv, hcs, hrowc, _, hd⟩ := a2.at hk
        obtain ⟨cur, hcur, hn, hcap, hlen, _⟩ := a2.1.block
        have hkn : k * 23 + 23 ≤ cur.length := by have := (List.getElem?_eq_some_iff.1 hcs).1; rw [List.length_map] at hn; omega
        have H1 := Lib.hid a1
        have H2 := Lib.hid a2
        have H4 := Lib.hid a4
        have H5 := Lib.hid a5
        have H6 := Lib.hid a6
        have HR := Lib.hid hrowc
        have HC := Lib.hid hcs
        have HCur := Lib.hid hcur
        have HD := Lib.hid hd
        have htbm : tb ∉ [b] := by have := (HP.out.2.1 b rfl).1; simpa using fun e => this e.symm
        have htmb : tb ∉ [mb] := by simpa using HP.out.1
        have hwb : w.heap.size ∉ [b] := by have := HP.out.2.2.2.2.2 b rfl; simp; omega
        have hwmb : w.heap.size ∉ [mb] := by have := HP.out.2.2.2.2.1; simp; omega
        have hbmb : b ∉ [mb] := by have := (HP.out.2.1 b rfl).2; simpa using this
        have hmbb : mb ∉ [b] := by have := (HP.out.2.1 b rfl).2; simpa using fun e => this e.symm
        have hcase : (atU (cksOf cs) u = none) ∨ atU (cksOf cs) u = some id := by
          cases ho : atU (cksOf cs) u with
          | none => exact .inl rfl
          | some o => exact .inr (by rw [hat o ho])
        clear hi hk hid e1 a1 a2 a4 a5 a6 hcs hrowc hd hcur hn hcap hlen hok hinv hbad hat
        rcases hcase with ho | ho
        all_goals
          rw [ho] at hlk
          simp only [Option.getD_some, Option.getD_none, Option.isSome_some, Option.isSome_none] at hlk
          clear ho
          go_wp2
          go_quiet (fail)
          go_wp2_with (first | (go_at_call 67; refine (valid_any u _).mono ?_; rintro e w2 ⟨rfl, hm2⟩; rw [HOk.out]; have hm12 := ((Mod.refl [] w1).drewN nq).trans_nil hm2; have c1' := hm12.cell c1 (by simp)) | (go_at_call 66; refine (leave_any w2 tb mb b k c rv M c1' (HR.out.mod hm12 (by simp)) HD.out (H4.out.mod hm12 (by simp))).mono ?_; rintro e w3 ⟨rfl, hM3, hm3⟩; have hcur3 := hm3.heap (hm12.heap HCur.out (by simp)) hbmb; have HCur3 := Lib.hid hcur3; clear hcur3; have hrow3 := (hrow.mod hm12 (by simp)).mod hm3 hwmb) | (refine wpList_load_at rfl 26 (.tmp 5) rfl _ Try.underlying26 rfl 3 info26 w.heap.size 0 u.cells rfl hrow3 rfl ?_) | (refine wpList_store_at rfl 26 (.tmp 43) (.tmp 41) rfl 3 info26 b (k * 23 + 18) 45 cur u.cells rfl rfl HCur3.out rfl (oneCell_unit _) (by simp [U3.cells]; omega) ?_; intro w4 hh4 hm4; have HH4 := Lib.hid hh4; clear hh4) | (refine wpList_store1 rfl 4 (.tmp 45) (.const (.bool false)) rfl info4 b (k * 23 + 21) 45 (splice cur (k * 23 + 18) u.cells) (.bool false) rfl rfl HH4.out rfl (by rw [length_splice _ _ _ (by simp [U3.cells]; omega)]; omega) ?_; intro w5 hh5 hm5; have HH5 := Lib.hid hh5; clear hh5; have c15 := hm5.cell (hm4.cell (hm3.cell c1' htmb) htbm) htbm; have hrow5 := (hrow3.mod hm4 hwb).mod hm5 hwb; have v0 := hrow5 0 _ rfl; have v1 := hrow5 1 _ rfl; have v2 := hrow5 2 _ rfl))
          go_still_tail 6, (by kernel_rfl)
          go_wp2_with (refine wpList_mapUpdate_unit rfl (.tmp 49) (.tmp 50) (.tmp 51) rfl mb u id (mleave M c) rfl rfl rfl (((MapIs.mod hm5 (MapIs.mod hm4 hM3 hmbb) hmbb)).mod ((Mod.refl [] w5).drew) (by simp)) ?_; intro w6 hM6 hm6)
          go_ret
          have hm35 : Mod [b] w3 w5 := hm4.trans hm5 (by simp)
          have hm56 : Mod [mb] w5 w6 := ((Mod.refl [mb] w5).drew).trans hm6 (by simp)
          have hm16 : Mod [mb, b] w1 w6 := (((hm12.nil (S := [mb, b])).trans hm3 (by simp)).trans hm35 (by simp)).trans hm56 (by simp)
          have hch3 : Chunks w3 (.slice (some ⟨b, 0, none⟩) n cap) cs := (H2.out.mod0 hm12).mod hm3 (NoRefs.map (H4.out.mod hm12 (by simp))) (by intro x hx; simp [Value.ownBlock] at hx; subst hx; exact hbmb)
          have hch5 := chunks_place (w0 := w) hch3 HC.out HD.out HCur3.out u false HH4.out HH5.out hm35 rfl
          have hch := hch5.mod hm56 (NoRefs.map (MapIs.mod hm5 (MapIs.mod hm4 hM3 hmbb) hmbb)) (by intro x hx; simp [Value.ownBlock] at hx; subst hx; exact hbmb)
          refine ⟨.slice (some ⟨b, 0, none⟩) n cap, by rw [HE.out]; rfl, ⟨_, mset (mleave M c) u id, hm16.heap H1.out (by simp at htbm htmb ⊢; exact ⟨htmb, htbm⟩), hch, by rw [HE.out, cksOf_set], hM6, ?_, by rw [HE.out]; exact HInv.out⟩, ?_, .inl rfl⟩
          · rw [HE.out]
            have := agree_move H4.out.nodup H5.out H6.out HK.out HInv.out
            have e : mset (mleave M c) u id = mset (mleave M c) u c.id := by rw [HI.out]
            rw [e]
            exact this
          · exact hm1.nil.trans hm16 (by simp [foot, Value.ownBlock])

end Go.Proofs.Ytknkifanpppglaa

/- Walks: Clone of chunks, maps.Clone, (*Table).Clone. -/
namespace Go.Proofs.Ytknkifanpppglaa
open Go.RowKit

theorem sty_ck : STy Try.prog 32 45 23 88 := STy.mk' (z := .agg zeroCells.toArray) Try.underlying32 (by kernel_rfl) rfl (by omega)

theorem oneCell_cks {w : World} {cs : List (Ck × Value)} (h : ∀ p ∈ cs, Refs w p.2 p.1.refs) : ∀ q ∈ cs.map (fun p => p.1.cells p.2), ∀ u ∈ q, u.oneCell' = true := by
  intro q hq u hu
  obtain ⟨p, hp, rfl⟩ := List.mem_map.1 hq
  exact oneCell_ck (h p hp).one u hu

def ChunksPost (cs : List (Ck × Value)) (w : World) (e : Ending) (w' : World) : Prop :=
  ∃ lv', e = .returned lv' ∧ Chunks w' lv' cs ∧ Mod [] w w' ∧ FreshN w.heap.size lv'

theorem cloneCks_any (w : World) (lv : Value) (cs : List (Ck × Value)) (h : Chunks w lv cs) (hl : cs.length ≤ 100000) :
    Calls Try.prog 68 #[lv] w (ChunksPost cs w) := by
  have H := Lib.hid h
  rcases h.shape with ⟨rfl, rfl⟩ | ⟨b, cap, rfl, hb, hc, hm, hr⟩
  · clear h
    have en := fun (w : World) => Lib.run_eql_slice_nil (P := Try.prog) w 32 _ none 0 0 0 0 Try.underlying32
    go_enter Try.func68, Try.ntmps68
    go_wp2
    go_ret
    exact ⟨_, rfl, H.out, Mod.refl _ _, FreshN.nil _⟩
  · clear h hr
    have en := fun (w : World) => Lib.run_eql_slice_nil (P := Try.prog) w 32 _ (some ⟨b, 0, none⟩) cs.length cap 0 0 Try.underlying32
    go_enter Try.func68, Try.ntmps68
    go_wp2_with (at_builtin; refine wpList_append_Own sty_ck rfl (.tmp 5) (.tmp 6) rfl (.slice (some ⟨w.heap.size, 0, none⟩) 0 0) (.slice (some ⟨b, 0, none⟩) cs.length cap) rfl rfl [] (cs.map fun p => p.1.cells p.2) (Own.lit0 _ _ _) (Src.mod ((Mod.refl [] w).alloc _) H.out.1.src (by simp)) (oneCell_cks H.out.2) (by simp [maxLen]; omega) (by simp; omega) ?_; intro v' w1 hown hm1 hfr)
    go_ret
    have hm2 : Mod [] w w1 := ((Mod.refl [] w).alloc _).trans hm1 (by simp [Value.ownBlock])
    rw [List.nil_append] at hown
    refine ⟨v', rfl, ⟨hown, fun p hp => (H.out.2 p hp).mod0 hm2⟩, hm2, fun g hg => ?_⟩
    rcases hfr with h1 | ⟨g', h1, h2⟩
    · rw [h1] at hg; simp [Value.ownBlock] at hg; omega
    · rw [hg] at h1; simp at h1; subst h1; simp at h2; omega

theorem run_typeAssert_map' {P : Program} (t xT k e : TypeId) (v : Value) (w : World) (h : P.underlying t = some (.map k e)) : (Instr.typeAssert (.iface t v) xT t false).run P w = .ok v w := by
  simp [Instr.typeAssert, run_underlying h, go_sem, Result.andThen]

theorem run_maps_clone' {P : Program} (w : World) {r : Nat} {es : Array MapEntry} {clock : Nat} (t : TypeId) (hb : w.heap[r]? = some (.map es clock)) :
    (Extern.MapsClone.clone #[.iface t (.map (some r))]).run P w = .ok (.iface t (.map (some w.heap.size))) (w.alloc (.map es clock)) := by
  have e : Extern.MapsClone.clone #[.iface t (.map (some r))] = (getObj r >>= fun o => match o with
      | .map entries clock => (newObj (.map entries clock) >>= fun n => pure (.iface t (.map (some n))))
      | _ => stuck "maps.clone: a map expected") := rfl
  have hg : (getObj r).run P w = .ok (.map es clock) w := by simp [getObj, Sem.run, hb]
  rw [e]
  simp [hg, Result.andThen, go_sem]

def CloneMapPost (M : List (U3 × Int)) (w : World) (e : Ending) (w' : World) : Prop :=
  ∃ mb', e = .returned (.map (some mb')) ∧ MapIs w' mb' M ∧ Mod [] w w' ∧ w.heap.size ≤ mb'

set_option maxRecDepth 100000 in
set_option maxHeartbeats 2000000 in
theorem cloneMap_any (w : World) (mb : Nat) (M : List (U3 × Int)) (h : MapIs w mb M) :
    Calls Try.prog 69 #[.map (some mb)] w (CloneMapPost M w) := by
  obtain ⟨es, clock, hb, he, hn⟩ := h
  have HE := Lib.hid he
  have HN := Lib.hid hn
  clear he hn
  have hq := fun w => run_eql_map_nil (P := Try.prog) w 118 _ _ (some mb) Try.underlying118
  go_enter Try.func69, Try.ntmps69
  go_wp2
  rw [run_callFunc_extern Try.func110 (by kernel_rfl) (by kernel_rfl) (by kernel_rfl) (e := Extern.MapsClone.clone) (by kernel_rfl), run_maps_clone' w 118 hb]
  simp only [Result.andThen]
  rw [Oper.upon_value]
  go_wp2
  rw [run_typeAssert_map' 118 20 _ _ _ _ Try.underlying118]
  simp only [Result.andThen]
  rw [Oper.upon_value]
  go_wp2
  go_ret
  exact ⟨_, rfl, ⟨es, clock, heap_alloc_at w _, HE.out, HN.out⟩, (Mod.refl _ _).alloc _, Nat.le_refl _⟩

theorem Chunks.isSlice {w : World} {lv : Value} {cs : List (Ck × Value)} (h : Chunks w lv cs) : ∃ a n c, lv = .slice a n c := by
  rcases h.shape with ⟨rfl, _⟩ | ⟨b, cap, rfl, _⟩ <;> exact ⟨_, _, _, rfl⟩

theorem Chunks.one {w : World} {lv : Value} {cs : List (Ck × Value)} (h : Chunks w lv cs) : lv.oneCell' = true := by
  rcases h.shape with ⟨rfl, _⟩ | ⟨b, cap, rfl, _⟩ <;> rfl

def ClonePost (l : List Ck) (w : World) (e : Ending) (w' : World) : Prop :=
  ∃ tb' mb' lv', e = .returned (.pointer (some ⟨tb', 0, none⟩)) ∧ Tab w' tb' mb' lv' l ∧ Mod [] w w' ∧ w.heap.size ≤ tb' ∧ w.heap.size ≤ mb' ∧ FreshN w.heap.size lv'

set_option maxRecDepth 100000 in
set_option maxHeartbeats 2000000 in
theorem clone_any (w : World) (tb mb : Nat) (lv : Value) (l : List Ck) (h : Tab w tb mb lv l) :
    Calls Try.prog 37 #[.pointer (some ⟨tb, 0, none⟩)] w (ClonePost l w) := by
  obtain ⟨c0, c1, hl, _, _⟩ := h.open
  obtain ⟨cs, M, a1, a2, a3, a4, a5, a6⟩ := h
  have hlc : cs.length ≤ 100000 := by rw [← a3, cksOf_len] at hl; omega
  have H2 := Lib.hid a2
  have H3 := Lib.hid a3
  have H4 := Lib.hid a4
  have H5 := Lib.hid a5
  have H6 := Lib.hid a6
  clear a1 a2 a3 a4 a5 a6
  go_enter Try.func37, Try.ntmps37
  go_wp2_with fail
  go_region_held3 (fun w' => w'.cell? ⟨tb, 0, none⟩ = some lv ∧ w'.cell? ⟨tb, 1, none⟩ = some (.map (some mb))) (first | go_keep | exact ⟨hm1.cell c0 (by simp), hm1.cell c1 (by simp)⟩ | exact ⟨hm2.cell (hm1.cell c0 (by simp)) (by simp), hm2.cell (hm1.cell c1 (by simp)) (by simp)⟩) (first | (go_at_call 68; refine (cloneCks_any _ lv cs (H2.out.mod0 ((Mod.refl [] w).drew)) hlc).mono ?_; rintro e w1 ⟨lv', rfl, hch, hm1, hfr⟩; obtain ⟨sa, sn, sc, rfl⟩ := hch.isSlice) | (go_at_call 69; refine (cloneMap_any _ mb M ((H4.out.mod ((Mod.refl [] w).drew) (by simp)).mod hm1 (by simp))).mono ?_; rintro e w2 ⟨mb', rfl, hM', hm2, hmb⟩))
  go_wp2
  go_ret
  have hm01 : Mod [] w w1 := (((Mod.refl [] w).drew).trans_nil hm1)
  have hm02 : Mod [] w w2 := hm01.trans_nil hm2
  have s1 : w.heap.size ≤ w1.heap.size := hm01.size
  have s2 : w.heap.size ≤ w2.heap.size := hm02.size
  have hma : Mod [] w2 (w2.alloc (.cells #[.slice sa sn sc, .map (some mb')] 120)) := (Mod.refl _ _).alloc _
  exact ⟨w2.heap.size, mb', .slice sa sn sc, rfl, ⟨cs, M, heap_alloc_at w2 _, (hch.mod0 hm2).mod0 hma, H3.out, hM'.mod hma (by simp), H5.out, H6.out⟩, hm02.alloc _, s2, by omega, hfr⟩

end Go.Proofs.Ytknkifanpppglaa
