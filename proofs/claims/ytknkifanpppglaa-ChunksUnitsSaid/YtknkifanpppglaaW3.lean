/- Walks: the references of a chunk: binary search, held, total; Count. -/
import Derived.Test.YtknkifanpppglaaW2
namespace Go.Proofs.Ytknkifanpppglaa
open Go.RowKit

theorem infoRef : (Try.prog.info? 113).map (·.size) = some 2 := by kernel_rfl

theorem place1_any (x : Int × Int) (t : Int) (w : World) :
    Calls Try.prog 131 #[.agg (refCells x).toArray, .int .i64 t] w fun e w' => e = .returned (.int .i64 (cmpI x.1 t)) ∧ Mod [] w w' := by
  have e0 : (refCells x)[0]? = some (.int .i64 x.1) := rfl
  go_enter Try.func131, Try.ntmps131
  go_wp2_with (go_at_call 107; refine (compare_any _ _ _).mono ?_; rintro e w' ⟨rfl, rfl⟩)
  go_ret
  exact ⟨rfl, (Mod.refl _ _).alloc _⟩

def foundR (r : List (Int × Int)) (t : Int) (k : Nat) : Bool := (r[k]?.map (fun p => decide (p.1 = t))).getD false
def CutR (r : List (Int × Int)) (t : Int) (k : Nat) : Prop :=
  k ≤ r.length ∧ (∀ (j : Nat) (p : Int × Int), j < k → r[j]? = some p → p.1 < t) ∧ (∀ (j : Nat) (p : Int × Int), k ≤ j → r[j]? = some p → t ≤ p.1)
def BsPostR (r : List (Int × Int)) (t : Int) (w : World) (e : Ending) (w' : World) : Prop :=
  ∃ k : Nat, CutR r t k ∧ e = .returned (.tuple #[.int .i64 k, .bool (foundR r t k)]) ∧ Mod [] w w'

set_option maxHeartbeats 1000000 in
theorem bsearchR_any (w : World) (b cap : Nat) (r : List (Int × Int)) (t : Int) (hlen : r.length ≤ 65536)
    (hrow : ∀ k x, r[k]? = some x → Row w b (k * 2) (refCells x)) (hr : Rising r) :
    Calls Try.prog 130 #[.slice (some ⟨b, 0, none⟩) r.length cap, .int .i64 t, .func (.func 131) #[] #[]] w (BsPostR r t w) := by
  have HR := Lib.hid hrow
  have ri : ∀ (i j : Nat) (p q : Int × Int), i < j → r[i]? = some p → r[j]? = some q → p.1 < q.1 := by
    intro i j p q hij hp hq
    have h1 := List.getElem?_eq_some_iff.1 hp
    have h2 := List.getElem?_eq_some_iff.1 hq
    have := List.pairwise_iff_getElem.1 hr i j h1.1 h2.1 hij
    rw [h1.2, h2.2] at this
    exact this
  have HRi := Lib.hid ri
  clear hrow hr ri
  go_enter Try.func130, Try.ntmps130
  go_wp2
  go_loopw [9, 10] (fun s9 s10 wr => ∃ lo hi : Nat, s9 = .int .i64 lo ∧ s10 = .int .i64 hi ∧ lo ≤ hi ∧ hi ≤ r.length ∧ Hid (∀ (j : Nat) (p : Int × Int), j < lo → r[j]? = some p → p.1 < t) ∧ Hid (∀ (j : Nat) (p : Int × Int), hi ≤ j → r[j]? = some p → t ≤ p.1) ∧ Mod [] w wr) (fun s9 s10 _ => (intOf s10 - intOf s9).toNat)
  case atStart => exact ⟨0, r.length, rfl, rfl, Nat.zero_le _, Nat.le_refl _, (fun j p hj => absurd hj (Nat.not_lt_zero _) : ∀ (j : Nat) (p : Int × Int), j < 0 → r[j]? = some p → p.1 < t), (fun j p hj hp => by rw [List.getElem?_eq_none hj] at hp; simp at hp : ∀ (j : Nat) (p : Int × Int), r.length ≤ j → r[j]? = some p → t ≤ p.1), Mod.refl _ _⟩
  case round =>
    obtain ⟨lo, hi, rfl, rfl, h1, h2, h3, h4, hm⟩ := hrel
    by_cases hlh : lo < hi
    · obtain ⟨p, hp⟩ : ∃ p, r[(lo + hi) / 2]? = some p := ⟨_, List.getElem?_eq_getElem (by omega)⟩
      have hrw : Row wr b ((lo + hi) / 2 * 2) (refCells p) := (HR.out _ p hp).mod hm (by simp)
      have HP := Lib.hid hp
      clear hp
      by_cases hc : cmpI p.1 t < 0
      · have hc' : p.1 < t := cmpI_lt.1 hc
        go_wp2_with (first | (refine wpList_load_at rfl 113 (.tmp 27) rfl _ Try.underlying113 rfl 2 infoRef b ((lo + hi) / 2 * 2) (refCells p) rfl hrw rfl ?_) | (go_at_call 131; refine (place1_any p t _).mono ?_; rintro e w' ⟨rfl, hm1⟩))
        go_roundw
        case rel =>
          refine ⟨(lo + hi) / 2 + 1, hi, by go_num, rfl, by omega, h2, ?_, h4, hm.trans_nil hm1⟩
          have F : ∀ (j : Nat) (q : Int × Int), j < (lo + hi) / 2 + 1 → r[j]? = some q → q.1 < t := by
            intro j q hj hq
            by_cases hj2 : j = (lo + hi) / 2
            · subst hj2; rw [HP.out] at hq; cases hq; exact hc'
            · have := HRi.out j _ q p (by omega) hq HP.out
              omega
          exact F
        case measure => simp [intOf]; omega
      · have hc' : t ≤ p.1 := by rw [cmpI_lt] at hc; omega
        go_wp2_with (first | (refine wpList_load_at rfl 113 (.tmp 27) rfl _ Try.underlying113 rfl 2 infoRef b ((lo + hi) / 2 * 2) (refCells p) rfl hrw rfl ?_) | (go_at_call 131; refine (place1_any p t _).mono ?_; rintro e w' ⟨rfl, hm1⟩))
        go_roundw
        case rel =>
          refine ⟨lo, (lo + hi) / 2, rfl, by go_num, by omega, by omega, h3, ?_, hm.trans_nil hm1⟩
          have F : ∀ (j : Nat) (q : Int × Int), (lo + hi) / 2 ≤ j → r[j]? = some q → t ≤ q.1 := by
            intro j q hj hq
            by_cases hj2 : j = (lo + hi) / 2
            · subst hj2; rw [HP.out] at hq; cases hq; exact hc'
            · have := HRi.out _ j p q (by omega) HP.out hq
              omega
          exact F
        case measure => simp [intOf]; omega
    · obtain rfl : lo = hi := by omega
      have cut : CutR r t lo := ⟨h2, h3.out, h4.out⟩
      have CUT := Lib.hid cut
      clear cut
      by_cases hl : lo < r.length
      · obtain ⟨p, hp⟩ : ∃ p, r[lo]? = some p := ⟨_, List.getElem?_eq_getElem hl⟩
        have hrw : Row wr b (lo * 2) (refCells p) := (HR.out _ p hp).mod hm (by simp)
        have hf : foundR r t lo = (cmpI p.1 t == 0) := by
          simp only [foundR, hp, Option.map_some, Option.getD_some]
          rw [Bool.eq_iff_iff, decide_eq_true_eq, beq_iff_eq, cmpI_eq]
        have HF := Lib.hid hf
        clear hp hf
        go_wp2_with (first | (refine wpList_load_at rfl 113 (.tmp 43) rfl _ Try.underlying113 rfl 2 infoRef b (lo * 2) (refCells p) rfl hrw rfl ?_) | (go_at_call 131; refine (place1_any p t _).mono ?_; rintro e w' ⟨rfl, hm1⟩))
        go_ret2
        exact ⟨lo, CUT.out, by rw [HF.out]; rfl, hm.trans_nil hm1⟩
      · have hf : foundR r t lo = false := by simp [foundR, List.getElem?_eq_none (Nat.le_of_not_lt hl)]
        have HF := Lib.hid hf
        clear hf
        go_wp2
        go_ret2
        exact ⟨lo, CUT.out, by rw [HF.out]; rfl, hm⟩

theorem bsearchR_nil (w : World) (t : Int) :
    Calls Try.prog 130 #[.slice none 0 0, .int .i64 t, .func (.func 131) #[] #[]] w (BsPostR [] t w) := by
  go_enter Try.func130, Try.ntmps130
  go_wp2
  refine wp_loop_rounds 1 ?_
  rw [rounds_succ]
  go_wp2
  go_ret2
  exact ⟨0, ⟨by simp, by simp, by simp⟩, rfl, Mod.refl _ _⟩

theorem place_any (w : World) (rv : Value) (r : List (Int × Int)) (t : Int) (h : Refs w rv r) (hr : Rising r) (hl : r.length ≤ 65536) :
    Calls Try.prog 108 #[rv, .int .i64 t] w (BsPostR r t w) := by
  have B : Calls Try.prog 130 #[rv, .int .i64 t, .func (.func 131) #[] #[]] w (BsPostR r t w) := by
    rcases h.shape with ⟨rfl, rfl⟩ | ⟨b, cap, rfl, _, _, _, h1⟩
    · exact bsearchR_nil w t
    · exact bsearchR_any w b cap r t hl h1 hr
  have HB := Lib.hid B
  clear B h hr
  go_enter Try.func108, Try.ntmps108
  go_wp2_with (go_at_call 130; refine HB.out.mono ?_; rintro e w' ⟨k, hc, rfl, hm⟩; have HC := Lib.hid hc; clear hc)
  go_ret2
  exact ⟨k, HC.out, rfl, hm⟩

theorem held_of_cut {r : List (Int × Int)} {t : Int} {k : Nat} (hr : Rising r) (hc : CutR r t k) :
    (foundR r t k = true → ∃ n, r[k]? = some (t, n) ∧ heldL r t = n) ∧ (foundR r t k = false → heldL r t = 0 ∧ ∀ x ∈ r, x.1 ≠ t) := by
  obtain ⟨h1, h2, h3⟩ := hc
  have hfa : ∀ (k : Nat) (n : Int), r[k]? = some (t, n) → heldL r t = n := by
    intro k n hk
    rcases part_refs hr t with ⟨_, h5, _⟩ | ⟨m, h4, h5, _⟩
    · exact absurd rfl (h5 _ (List.mem_of_getElem? hk))
    · obtain ⟨j, hj, he⟩ := List.getElem_of_mem h5
      have e1 := List.getElem?_eq_some_iff.1 hk
      rcases Nat.lt_trichotomy j k with hjk | hjk | hjk
      · have := List.pairwise_iff_getElem.1 hr j k hj e1.1 hjk
        rw [he, e1.2] at this; simp at this
      · subst hjk; have e2 := e1.2; rw [he] at e2; cases e2; exact h4
      · have := List.pairwise_iff_getElem.1 hr k j e1.1 hj hjk
        rw [he, e1.2] at this; simp at this
  constructor
  · intro hf
    unfold foundR at hf
    cases hk : r[k]? with
    | none => rw [hk] at hf; simp at hf
    | some p =>
      rw [hk] at hf
      simp at hf
      obtain ⟨a, n⟩ := p
      simp at hf; subst hf
      exact ⟨n, rfl, hfa k n hk⟩
  · intro hf
    have hall : ∀ x ∈ r, x.1 ≠ t := by
      intro x hx he
      obtain ⟨j, hj, hxj⟩ := List.getElem_of_mem hx
      have hj' : r[j]? = some x := by rw [List.getElem?_eq_getElem hj, hxj]
      rcases Nat.lt_trichotomy j k with hjk | hjk | hjk
      · have := h2 j x hjk hj'; omega
      · subst hjk; unfold foundR at hf; rw [hj'] at hf; simp at hf; exact hf he
      · have hk : k < r.length := by omega
        have e1 := h3 k r[k] (Nat.le_refl _) (List.getElem?_eq_getElem hk)
        have e2 := List.pairwise_iff_getElem.1 hr k j hk hj hjk
        rw [hxj] at e2; omega
    refine ⟨?_, hall⟩
    unfold heldL
    rw [List.find?_eq_none.2 (fun x hx => by simpa using hall x hx)]
    rfl

theorem held_any (w : World) (rv : Value) (r : List (Int × Int)) (t : Int) (h : Refs w rv r) (hr : Rising r) (hl : r.length ≤ 65536) :
    Calls Try.prog 63 #[rv, .int .i64 t] w fun e w' => e = .returned (.int .i64 (heldL r t)) ∧ Mod [] w w' := by
  have B := place_any w rv r t h hr hl
  have HB := Lib.hid B
  have HH := Lib.hid h
  have HRi := Lib.hid hr
  clear B h hr
  go_enter Try.func63, Try.ntmps63
  go_wp2_with fail
  refine HB.out.mono ?_
  rintro e w' ⟨k, hc, rfl, hm⟩
  have hh := held_of_cut HRi.out hc
  have hk := hc.1
  clear hc
  cases hf : foundR r t k with
  | false =>
    have h0 := Lib.hid (hh.2 hf).1
    clear hh hf
    go_wp2
    go_ret
    exact ⟨by rw [h0.out]; rfl, hm⟩
  | true =>
    obtain ⟨n, hn, hv⟩ := hh.1 hf
    have hkl : k < r.length := (List.getElem?_eq_some_iff.1 hn).1
    rcases HH.out.shape with ⟨rfl, rfl⟩ | ⟨b, cap, rfl, _, _, _, h1⟩
    · simp at hkl
    · have hcell : w'.cell? ⟨b, k * 2 + 1, none⟩ = some (.int .i64 n) := hm.cell (h1 k _ hn 1 _ rfl) (by simp)
      have HV := Lib.hid hv
      clear hh hf h1 hn hv
      go_wp2
      go_ret
      exact ⟨by rw [HV.out]; rfl, hm⟩

end Go.Proofs.Ytknkifanpppglaa
