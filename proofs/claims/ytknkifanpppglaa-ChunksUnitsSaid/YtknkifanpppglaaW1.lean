/- Walks: cmp.Compare, binary search, (*Table).find of the program. -/
import Derived.Test.YtknkifanpppglaaHeap
import Derived.Outline
import Derived.LoopTactic
import Derived.Deep.QuietTactic
import Derived.BigQuiet
import Derived.RegionTactic
import Derived.ChangeAlike
namespace Go.Proofs.Ytknkifanpppglaa
open Go.RowKit

def cmpI (x y : Int) : Int := if x < y then -1 else if y < x then 1 else 0

theorem isNaN_any (x : Int) (w : World) : Calls Try.prog 129 #[.int .i64 x] w fun e w' => e = .returned (.bool false) ∧ w = w' := by
  go_enter Try.func129, Try.ntmps129
  go_wp2
  go_ret
  exact ⟨by simp, rfl⟩

theorem compare_any (x y : Int) (w : World) : Calls Try.prog 107 #[.int .i64 x, .int .i64 y] w fun e w' => e = .returned (.int .i64 (cmpI x y)) ∧ w = w' := by
  go_enter Try.func107, Try.ntmps107
  go_wp2_with (go_at_call 129; refine (isNaN_any _ _).mono ?_; rintro e w' ⟨rfl, rfl⟩)
  all_goals
    go_ret
    refine ⟨?_, rfl⟩
    simp only [cmpI]
    (repeat' split) <;> first | rfl | omega

theorem find1_any (cs : List Value) (x id : Int) (h0 : cs[0]? = some (.int .i64 x)) (w : World) :
    Calls Try.prog 106 #[.agg cs.toArray, .int .i64 id] w fun e w' => e = .returned (.int .i64 (cmpI x id)) ∧ Mod [] w w' := by
  go_enter Try.func106, Try.ntmps106
  go_wp2_with (go_at_call 107; refine (compare_any _ _ _).mono ?_; rintro e w' ⟨rfl, rfl⟩)
  go_ret
  exact ⟨rfl, (Mod.refl _ _).alloc _⟩

theorem info45 : (Try.prog.info? 45).map (·.size) = some 23 := by kernel_rfl

theorem cmpI_lt {x y : Int} : cmpI x y < 0 ↔ x < y := by unfold cmpI; (repeat' split) <;> omega
theorem cmpI_eq {x y : Int} : cmpI x y = 0 ↔ x = y := by unfold cmpI; (repeat' split) <;> omega

def RiseC (cs : List (Ck × Value)) : Prop := ∀ (i j : Nat) (p q : Ck × Value), i < j → cs[i]? = some p → cs[j]? = some q → p.1.id < q.1.id

def foundAt (cs : List (Ck × Value)) (id : Int) (k : Nat) : Bool := (cs[k]?.map (fun p => decide (p.1.id = id))).getD false
def CutAt (cs : List (Ck × Value)) (id : Int) (k : Nat) : Prop :=
  k ≤ cs.length ∧ (∀ j p, j < k → cs[j]? = some p → p.1.id < id) ∧ (∀ j p, k ≤ j → cs[j]? = some p → id ≤ p.1.id)
def BsPost (cs : List (Ck × Value)) (id : Int) (w : World) (e : Ending) (w' : World) : Prop :=
  ∃ k : Nat, CutAt cs id k ∧ e = .returned (.tuple #[.int .i64 k, .bool (foundAt cs id k)]) ∧ Mod [] w w'

set_option maxHeartbeats 1000000 in
theorem bsearch_any (w : World) (b cap : Nat) (cs : List (Ck × Value)) (id : Int) (hlen : cs.length ≤ 65536)
    (hrow : ∀ k p, cs[k]? = some p → Row w b (k * 23) (p.1.cells p.2)) (hdig : ∀ p ∈ cs, p.1.dig.length = 16) (hr : RiseC cs) :
    Calls Try.prog 105 #[.slice (some ⟨b, 0, none⟩) cs.length cap, .int .i64 id, .func (.func 106) #[] #[]] w (BsPost cs id w) := by
  have HR := Lib.hid hrow
  have HD := Lib.hid hdig
  have HRi := Lib.hid hr
  clear hrow hdig hr
  go_enter Try.func105, Try.ntmps105
  go_wp2
  go_loopw [9, 10] (fun s9 s10 wr => ∃ lo hi : Nat, s9 = .int .i64 lo ∧ s10 = .int .i64 hi ∧ lo ≤ hi ∧ hi ≤ cs.length ∧ Hid (∀ j p, j < lo → cs[j]? = some p → p.1.id < id) ∧ Hid (∀ j p, hi ≤ j → cs[j]? = some p → id ≤ p.1.id) ∧ Mod [] w wr) (fun s9 s10 _ => (intOf s10 - intOf s9).toNat)
  case atStart => exact ⟨0, cs.length, rfl, rfl, Nat.zero_le _, Nat.le_refl _, (fun j p hj => absurd hj (Nat.not_lt_zero _) : ∀ (j : Nat) (p : Ck × Value), j < 0 → cs[j]? = some p → p.1.id < id), (fun j p hj hp => by rw [List.getElem?_eq_none hj] at hp; simp at hp : ∀ (j : Nat) (p : Ck × Value), cs.length ≤ j → cs[j]? = some p → id ≤ p.1.id), Mod.refl _ _⟩
  case round =>
    obtain ⟨lo, hi, rfl, rfl, h1, h2, h3, h4, hm⟩ := hrel
    by_cases hlh : lo < hi
    · obtain ⟨p, hp⟩ : ∃ p, cs[(lo + hi) / 2]? = some p := ⟨_, List.getElem?_eq_getElem (by omega)⟩
      have hrw : Row wr b ((lo + hi) / 2 * 23) (p.1.cells p.2) := (HR.out _ p hp).mod hm (by simp)
      have hd := HD.out p (List.mem_of_getElem? hp)
      have HP := Lib.hid hp
      clear hp
      by_cases hc : cmpI p.1.id id < 0
      · have hc' : p.1.id < id := cmpI_lt.1 hc
        go_wp2_with (first | (refine wpList_load_at rfl 45 _ rfl _ Try.underlying45 rfl 23 info45 b ((lo + hi) / 2 * 23) (p.1.cells p.2) rfl hrw (by rw [Ck.cells_len, hd]) ?_) | (go_at_call 106; refine (find1_any _ p.1.id id rfl _).mono ?_; rintro e w' ⟨rfl, hm1⟩))
        go_roundw
        case rel =>
          refine ⟨(lo + hi) / 2 + 1, hi, by go_num, rfl, by omega, h2, ?_, h4, hm.trans_nil hm1⟩
          have F : ∀ (j : Nat) (q : Ck × Value), j < (lo + hi) / 2 + 1 → cs[j]? = some q → q.1.id < id := by
            intro j q hj hq
            by_cases hj2 : j = (lo + hi) / 2
            · subst hj2; rw [HP.out] at hq; cases hq; exact hc'
            · have := HRi.out j _ q p (by omega) hq HP.out
              omega
          exact F
        case measure => simp [intOf]; omega
      · have hc' : id ≤ p.1.id := by rw [cmpI_lt] at hc; omega
        go_wp2_with (first | (refine wpList_load_at rfl 45 _ rfl _ Try.underlying45 rfl 23 info45 b ((lo + hi) / 2 * 23) (p.1.cells p.2) rfl hrw (by rw [Ck.cells_len, hd]) ?_) | (go_at_call 106; refine (find1_any _ p.1.id id rfl _).mono ?_; rintro e w' ⟨rfl, hm1⟩))
        go_roundw
        case rel =>
          refine ⟨lo, (lo + hi) / 2, rfl, by go_num, by omega, by omega, h3, ?_, hm.trans_nil hm1⟩
          have F : ∀ (j : Nat) (q : Ck × Value), (lo + hi) / 2 ≤ j → cs[j]? = some q → id ≤ q.1.id := by
            intro j q hj hq
            by_cases hj2 : j = (lo + hi) / 2
            · subst hj2; rw [HP.out] at hq; cases hq; exact hc'
            · have := HRi.out _ j p q (by omega) HP.out hq
              omega
          exact F
        case measure => simp [intOf]; omega
    · obtain rfl : lo = hi := by omega
      have cut : CutAt cs id lo := ⟨h2, h3.out, h4.out⟩
      have CUT := Lib.hid cut
      clear cut
      by_cases hl : lo < cs.length
      · obtain ⟨p, hp⟩ : ∃ p, cs[lo]? = some p := ⟨_, List.getElem?_eq_getElem hl⟩
        have hrw : Row wr b (lo * 23) (p.1.cells p.2) := (HR.out _ p hp).mod hm (by simp)
        have hd := HD.out p (List.mem_of_getElem? hp)
        have hf : foundAt cs id lo = (cmpI p.1.id id == 0) := by
          simp only [foundAt, hp, Option.map_some, Option.getD_some]
          rw [Bool.eq_iff_iff, decide_eq_true_eq, beq_iff_eq, cmpI_eq]
        have HF := Lib.hid hf
        clear hp hf
        go_wp2_with (first | (refine wpList_load_at rfl 45 _ rfl _ Try.underlying45 rfl 23 info45 b (lo * 23) (p.1.cells p.2) rfl hrw (by rw [Ck.cells_len, hd]) ?_) | (go_at_call 106; refine (find1_any _ p.1.id id rfl _).mono ?_; rintro e w' ⟨rfl, hm1⟩))
        go_ret2
        exact ⟨lo, CUT.out, by rw [HF.out]; rfl, hm.trans_nil hm1⟩
      · have hf : foundAt cs id lo = false := by simp [foundAt, List.getElem?_eq_none (Nat.le_of_not_lt hl)]
        have HF := Lib.hid hf
        clear hf
        go_wp2
        go_ret2
        exact ⟨lo, CUT.out, by rw [HF.out]; rfl, hm⟩

theorem bsearch_nil (w : World) (id : Int) :
    Calls Try.prog 105 #[.slice none 0 0, .int .i64 id, .func (.func 106) #[] #[]] w (BsPost [] id w) := by
  go_enter Try.func105, Try.ntmps105
  go_wp2
  refine wp_loop_rounds 1 ?_
  rw [rounds_succ]
  go_wp2
  go_ret2
  exact ⟨0, ⟨by simp, by simp, by simp⟩, rfl, Mod.refl _ _⟩

theorem riseC_of {cs : List (Ck × Value)} (h : Inv (cksOf cs)) : RiseC cs := fun _ _ _ _ hij hp hq => ids_lt h (cksOf_get hp) (cksOf_get hq) hij

theorem bsearch_lv (w : World) (lv : Value) (cs : List (Ck × Value)) (id : Int) (hc : Chunks w lv cs) (hi : Inv (cksOf cs)) :
    Calls Try.prog 105 #[lv, .int .i64 id, .func (.func 106) #[] #[]] w (BsPost cs id w) := by
  have hl := inv_len hi
  rw [cksOf_len] at hl
  rcases hc.shape with ⟨rfl, rfl⟩ | ⟨b, cap, rfl, _, _, _, hr⟩
  · exact bsearch_nil w id
  · exact bsearch_any w b cap cs id hl hr (fun p hp => hc.dig hp) (riseC_of hi)

theorem foundAt_true {cs : List (Ck × Value)} {id : Int} {k : Nat} (hi : Inv (cksOf cs)) (h : foundAt cs id k = true) : idxOf (cksOf cs) id = some k ∧ k < cs.length := by
  unfold foundAt at h
  cases hp : cs[k]? with
  | none => rw [hp] at h; simp at h
  | some p =>
    rw [hp] at h
    simp at h
    refine ⟨?_, (List.getElem?_eq_some_iff.1 hp).1⟩
    rw [← h]
    exact idxOf_at hi (cksOf_get hp)

theorem foundAt_false {cs : List (Ck × Value)} {id : Int} {k : Nat} (hi : Inv (cksOf cs)) (hc : CutAt cs id k) (h : foundAt cs id k = false) : idxOf (cksOf cs) id = none := by
  refine (idxOf_cut id k ?_ ?_ hi).2 ?_
  · intro j c hj hc'
    obtain ⟨rv, hrv⟩ := cksOf_get' hc'
    exact hc.2.1 j _ hj hrv
  · intro j c hj hc'
    obtain ⟨rv, hrv⟩ := cksOf_get' hc'
    exact hc.2.2 j _ hj hrv
  · intro c hc' he
    obtain ⟨rv, hrv⟩ := cksOf_get' hc'
    unfold foundAt at h
    rw [hrv] at h
    simp at h
    exact h he

def FindPost (lv : Value) (l : List Ck) (id : Int) (w : World) (e : Ending) (w' : World) : Prop :=
  Mod [] w w' ∧ ((idxOf l id = none ∧ e = .returned (.pointer none)) ∨
    ∃ k b n cap, idxOf l id = some k ∧ lv = .slice (some ⟨b, 0, none⟩) n cap ∧ e = .returned (.pointer (some ⟨b, k * 23, none⟩)))

theorem find_any (w : World) (tb mb : Nat) (lv : Value) (l : List Ck) (id : Int) (h : Tab w tb mb lv l) :
    Calls Try.prog 59 #[.pointer (some ⟨tb, 0, none⟩), .int .i64 id] w (FindPost lv l id w) := by
  obtain ⟨cs, M, a1, a2, rfl, a4, a5, a6⟩ := h
  have c0 : w.cell? ⟨tb, 0, none⟩ = some lv := by rw [cell_of_row w tb 0 _ _ _ a1]; rfl
  have B := bsearch_lv w lv cs id a2 a6
  have sh := a2.shape
  have HB := Lib.hid B
  have HS := Lib.hid sh
  have HA1 := Lib.hid a1
  clear B sh a1 a2 a4 a5 M
  go_enter Try.func59, Try.ntmps59
  go_wp2_with fail
  refine HB.out.mono ?_
  rintro e w' ⟨k, hcut, rfl, hm⟩
  have c1 : w'.cell? ⟨tb, 0, none⟩ = some lv := hm.cell c0 (by simp)
  have HCut := Lib.hid hcut
  clear hcut
  cases hf : foundAt cs id k with
  | false =>
    have hn := foundAt_false a6 HCut.out hf
    have HN := Lib.hid hn
    clear hn hf
    go_wp2
    go_ret
    exact ⟨hm, .inl ⟨HN.out, rfl⟩⟩
  | true =>
    have hn := foundAt_true a6 hf
    have hkl := hn.2
    have HN := Lib.hid hn.1
    clear hn hf
    rcases HS.out with ⟨rfl, rfl⟩ | ⟨b, cap, rfl, _, _, _, hr⟩
    · simp at hkl
    · clear hr
      go_wp2
      go_ret
      exact ⟨hm, .inr ⟨k, b, _, cap, HN.out, rfl, rfl⟩⟩

end Go.Proofs.Ytknkifanpppglaa
