/- Walks: total, Count, Ids, Len. -/
import Derived.Test.YtknkifanpppglaaW3
namespace Go.Proofs.Ytknkifanpppglaa
open Go.RowKit

theorem total_take (r : List (Int × Int)) (k : Nat) (x : Int × Int) (h : r[k]? = some x) : totalL (r.take (k + 1)) = totalL (r.take k) + x.2 := by
  have e := List.getElem?_eq_some_iff.1 h
  rw [List.take_succ_eq_append_getElem e.1, total_append, e.2]
  simp [totalL]

theorem total_nonneg {r : List (Int × Int)} (h : ∀ x ∈ r, 1 ≤ x.2) : 0 ≤ totalL r := by
  have := held_bounds h 0
  omega

theorem total_take_le {r : List (Int × Int)} (h : ∀ x ∈ r, 1 ≤ x.2) (k : Nat) : 0 ≤ totalL (r.take k) ∧ totalL (r.take k) ≤ totalL r := by
  have h1 : totalL r = totalL (r.take k) + totalL (r.drop k) := by rw [← total_append, List.take_append_drop]
  have h2 := total_nonneg (r := r.take k) (fun x hx => h x (List.mem_of_mem_take hx))
  have h3 := total_nonneg (r := r.drop k) (fun x hx => h x (List.mem_of_mem_drop hx))
  omega

theorem total_any (w : World) (rv : Value) (r : List (Int × Int)) (h : Refs w rv r) (hp : ∀ x ∈ r, 1 ≤ x.2) (ht : totalL r ≤ most) (hl : r.length ≤ 65536) :
    Calls Try.prog 99 #[rv] w fun e w' => e = .returned (.int .i64 (totalL r)) ∧ Mod [] w w' := by
  unfold most at ht
  rcases h.shape with ⟨rfl, rfl⟩ | ⟨b, cap, rfl, _, _, _, hr⟩
  · clear h
    go_enter Try.func99, Try.ntmps99
    go_wp2
    refine wp_loop_rounds 1 ?_
    rw [rounds_succ]
    go_wp2
    go_ret
    exact ⟨rfl, Mod.refl _ _⟩
  · have HR := Lib.hid hr
    have HP := Lib.hid hp
    have hb0 := total_take_le hp
    have HB := Lib.hid hb0
    clear h hr hp hb0
    go_enter Try.func99, Try.ntmps99
    go_wp2
    go_loopw [3, 8] (fun s3 s8 wr => ∃ k : Nat, k ≤ r.length ∧ s8 = .int .i64 k ∧ s3 = .int .i64 (totalL (r.take k)) ∧ Mod [] w wr) (fun _ s8 _ => r.length - (intOf s8).toNat)
    case atStart => exact ⟨0, Nat.zero_le _, rfl, rfl, Mod.refl _ _⟩
    case round =>
      obtain ⟨k, hk, rfl, rfl, hm⟩ := hrel
      by_cases hlt : k < r.length
      · obtain ⟨x, hx⟩ : ∃ x, r[k]? = some x := ⟨_, List.getElem?_eq_getElem hlt⟩
        have hrw : Row wr b (k * 2) [.int .i64 x.1, .int .i64 x.2] := (HR.out _ x hx).mod hm (by simp)
        have hs := total_take r k x hx
        have b1 := HB.out k
        have b2 := HB.out (k + 1)
        rw [hs] at b2
        have b3 := HP.out x (List.mem_of_getElem? hx)
        have HS := Lib.hid hs
        clear hx hs
        go_wp2_with (first | (refine wpList_load_at rfl 113 (.tmp 10) rfl _ Try.underlying113 rfl 2 infoRef b (k * 2) [.int .i64 x.1, .int .i64 x.2] rfl hrw rfl ?_))
        go_roundw
        case rel => exact ⟨k + 1, by omega, by go_num, by rw [HS.out], (hm.alloc _)⟩
        case measure => simp [intOf]; omega
      · go_wp2
        go_ret
        exact ⟨ret_int (by rw [List.take_of_length_le (by omega)]), hm⟩

theorem sty_int : STy Try.prog 52 3 1 8 := STy.mk' (z := .int .i64 0) Try.underlying52 (by kernel_rfl) rfl (by omega)

/-- v reads as the numbers xs -/
def Ints (w : World) (v : Value) (xs : List Int) : Prop := Own w 3 1 v (xs.map fun x => [Value.int .i64 x])
def Fresh (w : World) (v : Value) : Prop := ∀ g, v.ownBlock = some g → w.heap.size ≤ g

theorem Fresh.or {w w1 : World} {v v' : Value} (h : Fresh w v) (ho : FreshOr w1 v v') (hs : w.heap.size ≤ w1.heap.size) : Fresh w v' := by
  intro g hg
  rcases ho with h1 | ⟨g', h1, h2⟩
  · exact h g (by rw [← h1]; exact hg)
  · rw [hg] at h1; cases h1; omega

def FreshN (n : Nat) (v : Value) : Prop := ∀ g, v.ownBlock = some g → n ≤ g
theorem FreshN.or {n : Nat} {w1 : World} {v v' : Value} (h : FreshN n v) (ho : FreshOr w1 v v') (hs : n ≤ w1.heap.size) : FreshN n v' := by
  intro g hg
  rcases ho with h1 | ⟨g', h1, h2⟩
  · exact h g (by rw [← h1]; exact hg)
  · rw [hg] at h1; cases h1; omega
theorem FreshN.nil (n : Nat) : FreshN n (.slice none 0 0) := by intro g hg; simp [Value.ownBlock] at hg
theorem FreshN.mono {n m : Nat} {v : Value} (h : FreshN n v) (hm : m ≤ n) : FreshN m v := fun g hg => Nat.le_trans hm (h g hg)
theorem FreshN.notin {n : Nat} {v : Value} (h : FreshN n v) {b : Nat} (hb : b < n) : b ∉ v.ownBlock.toList := by
  intro hm
  have := h b (by simpa using hm)
  omega

/-- a step that may write a fresh row -/
theorem Mod.fresh {S : List Nat} {w w1 w2 : World} {v : Value} (h : Mod S w w1) (hf : Fresh w v) (h2 : Mod v.ownBlock.toList w1 w2) : Mod S w w2 :=
  h.trans h2 (fun x hx => .inr (hf x (by simpa using hx)))

theorem oneCell_ints (xs : List Int) : ∀ q ∈ xs.map (fun x => [Value.int .i64 x]), ∀ u ∈ q, u.oneCell' = true := by
  intro q hq u hu
  obtain ⟨x, _, rfl⟩ := List.mem_map.1 hq
  simp at hu; subst hu; rfl

theorem Ints.mod0 {w w' : World} (hm : Mod [] w w') {v : Value} {xs : List Int} (h : Ints w v xs) : Ints w' v xs := Own.mod hm h (by simp)

def IntsPost (xs : List Int) (w : World) (e : Ending) (w' : World) : Prop := ∃ v, e = .returned v ∧ Ints w' v xs ∧ Mod [] w w' ∧ Fresh w v

theorem len_any (w : World) (tb mb : Nat) (lv : Value) (l : List Ck) (h : Tab w tb mb lv l) :
    Calls Try.prog 36 #[.pointer (some ⟨tb, 0, none⟩)] w fun e w' => e = .returned (.int .i64 l.length) ∧ w = w' := by
  obtain ⟨cs, M, a1, a2, rfl, a4, a5, a6⟩ := h
  have c0 : w.cell? ⟨tb, 0, none⟩ = some lv := by rw [cell_of_row w tb 0 _ _ _ a1]; rfl
  have hl := cksOf_len cs
  have HL := Lib.hid hl
  rcases a2.shape with ⟨rfl, rfl⟩ | ⟨b, cap, rfl, _, _, _, hr⟩
  · clear a1 a2 a4 a5 a6 hl
    go_enter Try.func36, Try.ntmps36
    go_wp2
    go_ret
    exact ⟨rfl, rfl⟩
  · clear a1 a2 a4 a5 a6 hl hr
    go_enter Try.func36, Try.ntmps36
    go_wp2
    go_ret
    exact ⟨by rw [HL.out]; rfl, rfl⟩

/-- how a loop over a table's chunks begins: what the header gives, for a nil slice and for another -/
theorem Tab.open {w : World} {tb mb : Nat} {lv : Value} {l : List Ck} (h : Tab w tb mb lv l) :
    w.cell? ⟨tb, 0, none⟩ = some lv ∧ w.cell? ⟨tb, 1, none⟩ = some (.map (some mb)) ∧ l.length ≤ 65536 ∧ Inv l ∧
    ((lv = .slice none 0 0 ∧ l = []) ∨ ∃ b cap, lv = .slice (some ⟨b, 0, none⟩) l.length cap ∧ l.length ≤ cap ∧ b < w.heap.size ∧ ∀ k c, l[k]? = some c → ∃ rv, Row w b (k * 23) (c.cells rv) ∧ Refs w rv c.refs ∧ c.dig.length = 16 ∧ CkOk c) := by
  obtain ⟨cs, M, a1, a2, rfl, a4, a5, a6⟩ := h
  refine ⟨by rw [cell_of_row w tb 0 _ _ _ a1]; rfl, by rw [cell_of_row w tb 1 _ _ _ a1]; rfl, inv_len a6, a6, ?_⟩
  rcases a2.shape with ⟨rfl, rfl⟩ | ⟨b, cap, rfl, hb, hc, _, hr⟩
  · exact .inl ⟨rfl, rfl⟩
  · refine .inr ⟨b, cap, by rw [cksOf_len], by rw [cksOf_len]; exact hc, hb, fun k c hk => ?_⟩
    obtain ⟨rv, h1, h2, h3, h4⟩ := a2.at hk
    exact ⟨rv, h2, h3, h4, a6.each c (List.mem_of_getElem? hk)⟩

theorem take_snoc' {α : Type} {l : List α} {k : Nat} {c : α} (h : l[k]? = some c) : l.take (k + 1) = l.take k ++ [c] := by
  have e := List.getElem?_eq_some_iff.1 h
  rw [List.take_succ_eq_append_getElem e.1, e.2]

set_option maxHeartbeats 1000000 in
theorem ids_any (w : World) (tb mb : Nat) (lv : Value) (l : List Ck) (h : Tab w tb mb lv l) :
    Calls Try.prog 32 #[.pointer (some ⟨tb, 0, none⟩)] w (IntsPost (l.map (·.id)) w) := by
  obtain ⟨c0, _, hl, _, hs⟩ := h.open
  clear h
  rcases hs with ⟨rfl, rfl⟩ | ⟨b, cap, rfl, hc, _, hr⟩
  · go_enter Try.func32, Try.ntmps32
    go_wp2
    refine wp_loop_rounds 1 ?_
    rw [rounds_succ]
    go_wp2
    go_ret
    exact ⟨_, rfl, Own.nil _ _ _, Mod.refl _ _, by intro g hg; simp [Value.ownBlock] at hg⟩
  · have HR := Lib.hid hr
    clear hr
    go_enter Try.func32, Try.ntmps32
    go_wp2
    go_loopw [3, 11] (fun s3 s11 wr => ∃ k : Nat, k ≤ l.length ∧ s11 = .int .i64 k ∧ Ints wr s3 ((l.take k).map (·.id)) ∧ Fresh w s3 ∧ Mod [] w wr) (fun _ s11 _ => l.length - (intOf s11).toNat)
    case atStart => exact ⟨0, Nat.zero_le _, rfl, Own.nil _ _ _, by intro g hg; simp [Value.ownBlock] at hg, Mod.refl _ _⟩
    case round =>
      obtain ⟨k, hk, rfl, hown, hfr, hm⟩ := hrel

      by_cases hlt : k < l.length
      · obtain ⟨c, hx⟩ : ∃ c, l[k]? = some c := ⟨_, List.getElem?_eq_getElem hlt⟩
        obtain ⟨rv, hrw, hrf, hd, _⟩ := HR.out k c hx
        have hrw1 := hrw.mod hm (by simp)
        have hrf1 := hrf.one
        have HX := Lib.hid hx
        have HO := Lib.hid hown
        have HRF := Lib.hid hrf1
        have HD := Lib.hid hd
        clear hx hown hrw hrf hrf1 hd
        go_wp2_with (first | (refine wpList_load_at rfl 45 (.tmp 13) rfl _ Try.underlying45 rfl 23 info45 b (k * 23) (c.cells rv) rfl hrw1 (by rw [Ck.cells_len, HD.out]) ?_) | (refine wpList_store_at rfl 45 (.tmp 5) (.tmp 14) rfl 23 info45 wr.heap.size 0 45 zeroCells (c.cells rv) rfl rfl (heap_alloc_at _ _) (by rw [Ck.cells_len, HD.out]) (oneCell_ck HRF.out) (by simp [zeroCells, Ck.cells_len, HD.out]) ?_; intro w2 hhw2 hsw2; have hmw2 := ((Mod.refl [] wr).alloc (.cells zeroCells.toArray 45)).trans hsw2 (by simp); rw [splice_all _ _ (by simp [zeroCells, Ck.cells_len, HD.out])] at hhw2; have roww2 := Row.of_heap hhw2; have HHw2 := Lib.hid hhw2; clear hhw2; have c1 : w2.cell? ⟨wr.heap.size, 0, none⟩ = some (.int .i64 c.id) := roww2 0 _ rfl) | (at_builtin; refine wpList_append_Own sty_int rfl (.tmp 15) (.tmp 18) rfl u3 (.slice (some ⟨w2.heap.size, 0, none⟩) 1 1) rfl rfl _ [[Value.int .i64 c.id]] (Ints.mod0 (hmw2.alloc _) HO.out) (Src.one rfl (Row.of_heap (heap_alloc_at _ _))) (by simp [Value.oneCell']) (by simp [maxLen]; omega) (by simp; omega) ?_; intro v' w3 hown' hm3 hfr'))
        go_roundw
        case rel =>
          refine ⟨k + 1, by omega, by go_num, ?_, hfr.or hfr' (by have := hm.size; have := hmw2.size; simp; omega), ((hm.trans_nil hmw2).alloc _).fresh hfr hm3⟩
          rw [take_snoc' HX.out]
          simpa [Ints] using hown'
        case measure => simp [intOf]; omega
      · have HO := Lib.hid hown
        clear hown
        go_wp2
        go_ret
        refine ⟨u3, rfl, ?_, hm, hfr⟩
        have := HO.out
        rwa [List.take_of_length_le (by omega)] at this

end Go.Proofs.Ytknkifanpppglaa
