/- Walks: slices.Insert of one reference. -/
import Derived.Test.YtknkifanpppglaaW11
import Derived.Test.YtknkifanpppglaaBlk
namespace Go.Proofs.Ytknkifanpppglaa
open Go.RowKit

theorem zrow_ref : ((Try.prog.info? 113).bind (·.zero)).map (·.cells.toList) = some [.int .i64 0, .int .i64 0] := by kernel_rfl

/-- what the two copies leave -/
theorem insert_rows {α : Type} (es : List α) (i k : Nat) (e z : α) (hi : i < es.length) :
    (splice (splice (es.take i ++ List.replicate (es.length + 1 - i + k) z) i [e]) (i + 1) (es.drop i)).take (es.length + 1) = es.take i ++ e :: es.drop i := by
  have h1 : (es.take i).length = i := by rw [List.length_take]; omega
  have h2 : splice (es.take i ++ List.replicate (es.length + 1 - i + k) z) i [e] = es.take i ++ e :: List.replicate (es.length - i + k) z := by
    unfold splice
    rw [List.take_left' h1, List.drop_append, List.drop_of_length_le (by simp; omega), h1, List.nil_append, List.drop_replicate]
    simp only [List.length_singleton, List.singleton_append]
    congr 3
    omega
  rw [h2]
  have h3 : splice (es.take i ++ e :: List.replicate (es.length - i + k) z) (i + 1) (es.drop i) = (es.take i ++ e :: es.drop i) ++ List.replicate k z := by
    unfold splice
    have e1 : (es.take i ++ e :: List.replicate (es.length - i + k) z).take (i + 1) = es.take i ++ [e] := by
      rw [List.take_append, List.take_of_length_le (by omega), h1, show i + 1 - i = 1 by omega]; rfl
    have e2 : (es.take i ++ e :: List.replicate (es.length - i + k) z).drop (i + 1 + (es.drop i).length) = List.replicate k z := by
      rw [List.drop_append, List.drop_of_length_le (by omega), h1, List.nil_append, List.length_drop, show i + 1 + (es.length - i) - i = (es.length - i) + 1 by omega, List.drop_succ_cons, List.drop_replicate]
      congr 1; omega
    rw [e1, e2]
    simp
  rw [h3]
  refine List.take_left' ?_
  simp only [List.length_append, List.length_cons, List.length_drop, h1]
  omega

theorem World.lt_of_row {w : World} {b off : Nat} {e : List Value} {n : Nat} (h : Row w b off e) (hl : e.length = n + 1 := by assumption) : b < w.heap.size :=
  Go.block_lt_of_cell (h 0 e[0] (List.getElem?_eq_getElem (by omega)))

def InsPost (E sz : Nat) (es' : List (List Value)) (w : World) (e : Ending) (w' : World) : Prop :=
  ∃ v', e = .returned v' ∧ Own w' E sz v' es' ∧ Mod [] w w' ∧ FreshN w.heap.size v'

set_option maxRecDepth 100000 in
set_option maxHeartbeats 2000000 in
theorem insertR_any (w : World) (b L i vb : Nat) (es : List (List Value)) (e : List Value) (hL : L = es.length) (hi : i ≤ L) (hmx : L ≤ 100000) (hs : Src w 2 (.slice (some ⟨b, 0, none⟩) L L) es) (he : e.length = 2) (hv : Row w vb 0 e)
    (h1 : ∀ r ∈ es, ∀ u ∈ r, u.oneCell' = true) (h2 : ∀ u ∈ e, u.oneCell' = true) :
    Calls Try.prog 126 #[.slice (some ⟨b, 0, none⟩) L L, .int .i64 i, .slice (some ⟨vb, 0, none⟩) 1 1] w (InsPost 113 2 (es.take i ++ e :: es.drop i) w) := by
  have HL := Lib.hid hL
  have HS := Lib.hid hs
  have HE := Lib.hid he
  have HV := Lib.hid hv
  have HO1 := Lib.hid h1
  have HO2 := Lib.hid h2
  clear hL hs he hv h1 h2
  by_cases hiL : i = L
  · subst hiL
    have hb1 : ((i : Int) == i) = true := by simp
    go_enter Try.func126, Try.ntmps126
    go_wp2_with (at_builtin; refine wpList_append_grow sty_ref rfl (.tmp 23) (.tmp 24) rfl b 0 i i vb 0 1 1 rfl rfl es [e] HL.out rfl HS.out (Src.one HE.out HV.out) (by omega) (by omega) (by simp [maxLen]; omega) ?_; intro w1 k hown hm)
    go_ret
    refine ⟨_, rfl, ?_, hm, ?_⟩
    · rw [HL.out, List.take_of_length_le (Nat.le_refl _), List.drop_of_length_le (Nat.le_refl _), ← HL.out]; exact hown
    · intro g hg; simp [Value.ownBlock] at hg; omega
  · have hlt : i < L := by omega
    have hbl : b < w.heap.size := HS.out.lt (by omega)
    have hb1 : ((i : Int) == L) = false := by simp; omega
    have hcast : ((L : Int) + 1 - i) = ((L + 1 - i : Nat) : Int) := by omega
    have HC := Lib.hid hcast
    clear hcast
    go_enter Try.func126, Try.ntmps126
    go_wp2_with (first | (refine wpList_append_zeros (zrow := [.int .i64 0, .int .i64 0]) sty_ref Try.underlying3 zrow_ref rfl (.tmp 34) (.tmp 39) rfl (.slice (some ⟨b, 0, none⟩) i L) (some ⟨b, 0, none⟩) i L (L + 1 - i) rfl rfl (int_eq HC.out) (es.take i) (by rw [List.length_take, ← HL.out]; omega) (HS.out.takeS i L (by omega)) (L + 1) (by omega) (by omega) (by omega) (by omega) (by simp [maxLen]; omega) ?_; intro w1 k hblk hm hmax; have HB := Lib.hid hblk; clear hblk; have hvb := World.lt_of_row HV.out HE.out) | (refine wpList_copy_blk sty_ref rfl (.tmp 43) (.tmp 44) rfl w.heap.size i _ _ (.slice (some ⟨vb, 0, none⟩) 1 1) rfl rfl _ [e] HB.out ((Src.one HE.out HV.out).mod hm (by simp)) (by simpa using HO2.out) (Nat.le_trans (Nat.add_le_add_left (Nat.min_le_left _ _) _) (by have := HL.out; simp; omega)) ?_; intro w2 hblk2 hm2; have HB2 := Lib.hid hblk2; clear hblk2))
    have hw5 : ¬ L = i := fun e => hiL e.symm
    have hw6 : ¬ L + 1 + k = i + 1 := by omega
    have hw1 : IntKind.i64.wrap ((i : Int) + 1) = (i : Int) + 1 := IntWalk.i64_in _ (by omega)
    have hw2 : (0 : Int) ≤ (i : Int) + 1 := by omega
    have hw3 : ((i : Int) + 1).toNat = i + 1 := by omega
    have hw4 : (i : Int) + 1 ≤ ((L : Int) + 1) := by omega
    go_still_tail 8, (by kernel_rfl)
    have hlen : (splice (es.take i ++ List.replicate (L + 1 - i + k) [Value.int .i64 0, Value.int .i64 0]) i (List.take (Nat.min [e].length (L + 1 - i)) [e])).length = L + 1 + k := by
      have := HL.out
      have e1 : Nat.min [e].length (L + 1 - i) = 1 := Nat.min_eq_left (by simp; omega)
      rw [e1, length_splice _ _ _ (by simp; omega)]; simp; omega
    go_wp2_with (refine wpList_copy_blk sty_ref rfl (.tmp 50) (.tmp 53) rfl w.heap.size (i + 1) _ _ (.slice (some ⟨b, i * 2, none⟩) (L - i) (L - i)) rfl rfl _ (es.drop i) (HB2.out.mod ((Mod.refl [] w2).drew) (by simp)) ((((by simpa using HS.out.dropS i (L - i) (by omega) : Src w 2 (.slice (some ⟨b, i * 2, none⟩) (L - i) (L - i)) (es.drop i)).mod hm (by simp)).mod hm2 (by simp [Value.ownBlock]; omega)).mod ((Mod.refl [] w2).drew) (by simp)) (fun r hr => HO1.out r (List.mem_of_mem_drop hr)) (Nat.le_trans (Nat.add_le_add_left (Nat.min_le_right _ _) _) (by rw [hlen]; omega)) ?_; intro w3 hblk3 hm3; have HB3 := Lib.hid hblk3; clear hblk3)
    go_ret
    have hb3 := HB3.out
    have e1 : Nat.min [e].length (L + 1 - i) = 1 := Nat.min_eq_left (by simp; omega)
    have e2 : Nat.min (es.drop i).length (L - i) = (es.drop i).length := Nat.min_eq_left (by rw [List.length_drop, ← HL.out]; omega)
    rw [e1, e2, List.take_of_length_le (Nat.le_refl _), show List.take 1 [e] = [e] from rfl] at hb3
    have hL := HL.out
    subst hL
    have hlen2 : (splice (splice (es.take i ++ List.replicate (es.length + 1 - i + k) [Value.int .i64 0, Value.int .i64 0]) i [e]) (i + 1) (es.drop i)).length = es.length + 1 + k := by
      have e3 : (splice (es.take i ++ List.replicate (es.length + 1 - i + k) [Value.int .i64 0, Value.int .i64 0]) i [e]).length = es.length + 1 + k := by
        rw [length_splice _ _ _ (by simp; omega)]; simp; omega
      rw [length_splice _ _ _ (by rw [e3]; simp; omega), e3]
    have hown := hb3.own (es.length + 1) (by omega) (by omega) _ (insert_rows es i k e _ hlt)
    rw [hlen2] at hown
    have hmm : Mod [] w w3 := ((hm.trans hm2 (by simp)).drew).trans hm3 (by simp)
    exact ⟨_, rfl, hown, hmm, fun g hg => by simp [Value.ownBlock] at hg; omega⟩

end Go.Proofs.Ytknkifanpppglaa
